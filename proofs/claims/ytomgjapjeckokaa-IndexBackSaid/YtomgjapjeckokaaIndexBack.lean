/- IndexBack: for every input the law returns true, and its arguments read as they did (XIyW, XIyX, XIyY, XIzG, XIzH, XIyT, XKeep, XIzJ, XIzK, XIyV, XIzB, XIndexBack in one text). -/
import Derived.Test.YtomgjapjeckokaaIyP
import Derived.Deep.RegionHeld3
import Derived.Test.YtomgjapjeckokaaIyL
import Derived.Test.YtomgjapjeckokaaIyS
import Derived.Test.YtomgjapjeckokaaLib
import Derived.Test.YtomgjapjeckokaaIyO
import Derived.Test.YtomgjapjeckokaaIyQ
import Derived.Deep.AppendLies
import Derived.Deep.DeepCutAuto
import Derived.Test.YtomgjapjeckokaaIyM
import Derived.Test.YtomgjapjeckokaaLaw
namespace Go.Proofs.Ytomgjapjeckokaa
open Go.RowKit Go.Shelf Go.Lib

theorem bit_set (v : UInt8) {k j : Nat} (hk : k < 8) (hj : j < 8) : bitB (setB v k) j = (decide (j = k) || bitB v j) := by
  have key : ∀ x, x < 256 → ∀ k, k < 8 → ∀ j, j < 8 → (decide ((UInt8.ofNat (x ||| 2 ^ k)).toNat / 2 ^ j % 2 = 1)) = (decide (j = k) || decide (x / 2 ^ j % 2 = 1)) := by decide +kernel
  exact key v.toNat v.toNat_lt k hk j hj
def hasN (m : List UInt8) (c : Nat) : Bool := bitB (m.getD (c / 8) 0) (c % 8)
theorem hasM_nat {m : List UInt8} {c : Nat} (h : c < 128) : hasM m (c : Int) = hasN m c := by
  unfold hasM hasN
  rw [decide_eq_false (by omega : ¬ (c : Int) < 0), decide_eq_false (by omega : ¬ (128 : Int) ≤ (c : Int)), Int.toNat_natCast]
  rfl
theorem has_set {m : List UInt8} (hm : m.length = 16) {b c : Nat} (hb : b < 128) (_hc : c < 128) : hasN (setM m b) c = (decide (c = b) || hasN m c) := by
  unfold hasN setM
  by_cases h : c / 8 = b / 8
  · have e1 : (m.set (b / 8) (setB (m.getD (b / 8) 0) (b % 8))).getD (c / 8) 0 = setB (m.getD (b / 8) 0) (b % 8) := by
      rw [h, List.getD_eq_getElem?_getD, List.getElem?_set, if_pos rfl, if_pos (by omega)]; rfl
    rw [e1, bit_set _ (Nat.mod_lt _ (by decide)) (Nat.mod_lt _ (by decide)), h]
    congr 1
    exact decide_eq_decide.2 (by omega)
  · have e1 : (m.set (b / 8) (setB (m.getD (b / 8) 0) (b % 8))).getD (c / 8) 0 = m.getD (c / 8) 0 := by
      rw [List.getD_eq_getElem?_getD, List.getElem?_set, if_neg (fun h9 => h h9.symm), ← List.getD_eq_getElem?_getD]
    rw [e1, decide_eq_false (fun h9 => h (by rw [h9])), Bool.false_or]
theorem withF_some {m : List UInt8} (hm : m.length = 16) {f : Nat} : ∀ {n : Nat} {r : List UInt8}, f + n ≤ 128 → withF m f n = some r → (∀ c, c < 128 → hasN r c = (decide (f ≤ c ∧ c < f + n) || hasN m c)) ∧ ∀ c, f ≤ c → c < f + n → hasN m c = false
  | 0, r, _, h => by
    rw [withF] at h; cases h
    exact ⟨fun c _ => by rw [decide_eq_false (by omega), Bool.false_or], fun c h1 h2 => by omega⟩
  | n + 1, r, hn, h => by
    rw [withF] at h
    obtain ⟨m', h1, h2⟩ := Option.bind_eq_some_iff.1 h
    obtain ⟨a1, a2⟩ := withF_some hm (by omega) h1
    have hm' : m'.length = 16 := (withF_len h1).trans hm
    split at h2
    · cases h2
    · rename_i hno
      cases h2
      rw [hasM_nat (by omega), a1 _ (by omega), decide_eq_false (by omega), Bool.false_or] at hno
      refine ⟨fun c hc => ?_, fun c h3 h4 => ?_⟩
      · rw [has_set hm' (by omega) hc, a1 c hc, ← Bool.or_assoc]
        congr 1
        rw [Bool.eq_iff_iff]
        simp only [Bool.or_eq_true, decide_eq_true_eq]
        omega
      · by_cases e : c = f + n
        · rw [e]; simpa using hno
        · exact a2 c h3 (by omega)
theorem withF_none {m : List UInt8} (hm : m.length = 16) {f : Nat} : ∀ {n : Nat}, f + n ≤ 128 → withF m f n = none → ∃ c, f ≤ c ∧ c < f + n ∧ hasN m c = true
  | 0, _, h => by rw [withF] at h; cases h
  | n + 1, hn, h => by
    rw [withF] at h
    cases h1 : withF m f n with
    | none =>
      obtain ⟨c, h2, h3, h4⟩ := withF_none hm (by omega) h1
      exact ⟨c, h2, by omega, h4⟩
    | some m' =>
      rw [h1, Option.bind_some] at h
      split at h
      · rename_i hh
        obtain ⟨a1, -⟩ := withF_some hm (by omega) h1
        rw [hasM_nat (by omega), a1 _ (by omega), decide_eq_false (by omega), Bool.false_or] at hh
        exact ⟨f + n, by omega, by omega, hh⟩
      · cases h
/-- do two entries lie over one another? -/
def overE (a b : Ent) : Bool := decide (a.place < b.place + b.blocks) && decide (b.place < a.place + a.blocks)
def entD : Ent := ⟨[], 0, 0, 0⟩
def apartTo (l : List Ent) (i k : Nat) : Bool := (List.range k).all fun j => !overE (l.getD j entD) (l.getD i entD)
def okAt (l : List Ent) (i : Nat) : Bool := oneAt l i && (i == 0 || lessS (keyAt l (i - 1)) (keyAt l i))
def rGoodTo (l : List Ent) (n : Nat) : Bool := (List.range n).all fun i => okAt l i && apartTo l i i
def rGoodL (l : List Ent) : Bool := rGoodTo l l.length
/-- the blocks of the first n entries -/
def coverN (l : List Ent) (n c : Nat) : Prop := ∃ i e, i < n ∧ l[i]? = some e ∧ e.place ≤ (c : Int) ∧ (c : Int) < e.place + e.blocks
def apartAll (l : List Ent) (n : Nat) : Prop := ∀ i, i < n → oneAt l i = true ∧ apartTo l i i = true
theorem goodL_one {e : Ent} : goodL [e] = oneE e := by
  unfold goodL goodTo oneAt
  simp
theorem withM_one {m : List UInt8} {e : Ent} (h : oneE e = true) : withM m e.place e.blocks = match withF m e.place.toNat e.blocks.toNat with | some r => (r, 0) | none => (zer16, 11) := by
  obtain ⟨h1, h2, h3, h4, h5, -, -⟩ := oneE_is h
  unfold withM
  rw [if_neg (by omega)]
  cases withF m e.place.toNat e.blocks.toNat <;> rfl
theorem used_spec (l : List Ent) : ∀ n, n ≤ l.length → (∀ m, usedTo l n = some m → apartAll l n ∧ ∀ c, c < 128 → (hasN m c = true ↔ coverN l n c)) ∧ (usedTo l n = none → ¬ apartAll l n)
  | 0, _ => by
    refine ⟨fun m h => ?_, fun h => ?_⟩
    · rw [usedTo] at h; cases h
      refine ⟨fun i hi => absurd hi (Nat.not_lt_zero _), fun c hc => ?_⟩
      have h0 : hasN zer16 c = false := by
        have key : ∀ c, c < 128 → hasN zer16 c = false := by decide +kernel
        exact key c hc
      rw [h0]
      constructor
      · intro h; cases h
      · rintro ⟨i, e, hi, -⟩; omega
    · rw [usedTo] at h; cases h
  | n + 1, hn => by
    obtain ⟨ih1, ih2⟩ := used_spec l n (by omega)
    obtain ⟨e, he⟩ : ∃ e, l[n]? = some e := ⟨_, List.getElem?_eq_getElem (by omega)⟩
    have hD : l.getD n entD = e := by rw [List.getD_eq_getElem?_getD, he]; rfl
    have hone : oneAt l n = oneE e := by unfold oneAt; rw [he]
    cases hu : usedTo l n with
    | none =>
      have hu2 : usedTo l (n + 1) = none := by rw [usedTo, hu]; rfl
      refine ⟨fun m h => (by rw [hu2] at h; cases h), fun _ ha => ih2 hu fun i hi => ha i (by omega)⟩
    | some m =>
      have ha := (ih1 m hu).1
      have hc := (ih1 m hu).2
      have hml : m.length = 16 := usedTo_len hu
      have hu2 : usedTo l (n + 1) = if (withM m e.place e.blocks).2 = 0 ∧ goodL [e] = true then some (withM m e.place e.blocks).1 else none := by rw [usedTo, hu, Option.bind_some, he]
      have hin : ∀ j, j < n → ∃ a, l[j]? = some a ∧ l.getD j entD = a ∧ oneE a = true := fun j hj => by
        refine ⟨l[j], List.getElem?_eq_getElem (by omega), ?_, ?_⟩
        · rw [List.getD_eq_getElem?_getD, List.getElem?_eq_getElem (by omega)]; rfl
        · have := (ha j hj).1
          unfold oneAt at this
          rwa [List.getElem?_eq_getElem (by omega)] at this
      by_cases ho : oneE e = true
      · obtain ⟨p1, p2, p3, p4, p5, -, -⟩ := oneE_is ho
        have hw := withM_one (m := m) ho
        have hfn : e.place.toNat + e.blocks.toNat ≤ 128 := by omega
        cases hf : withF m e.place.toNat e.blocks.toNat with
        | some r =>
          rw [hf] at hw
          obtain ⟨a1, a2⟩ := withF_some hml hfn hf
          rw [hw, if_pos ⟨rfl, by rw [goodL_one]; exact ho⟩] at hu2
          refine ⟨fun m2 h => ?_, fun h => by rw [hu2] at h; cases h⟩
          rw [hu2] at h
          cases h
          refine ⟨fun i hi => ?_, fun c hcl => ?_⟩
          · by_cases ei : i = n
            · subst ei
              refine ⟨by rw [hone]; exact ho, ?_⟩
              unfold apartTo
              rw [List.all_eq_true]
              intro j hj
              rw [List.mem_range] at hj
              obtain ⟨a, h1, h2, h3⟩ := hin j hj
              rw [h2, hD]
              obtain ⟨q1, q2, q3, q4, q5, -, -⟩ := oneE_is h3
              unfold overE
              rw [Bool.not_eq_true', Bool.and_eq_false_iff, decide_eq_false_iff_not, decide_eq_false_iff_not]
              by_cases hov : a.place < e.place + e.blocks ∧ e.place < a.place + a.blocks
              · exfalso
                obtain ⟨c, hc1, hc2, hc3, hc4⟩ : ∃ c : Nat, a.place ≤ (c : Int) ∧ (c : Int) < a.place + a.blocks ∧ e.place ≤ (c : Int) ∧ (c : Int) < e.place + e.blocks := by
                  by_cases hle : a.place ≤ e.place
                  · exact ⟨e.place.toNat, by omega, by omega, by omega, by omega⟩
                  · exact ⟨a.place.toNat, by omega, by omega, by omega, by omega⟩
                have h5 := a2 c (by omega) (by omega)
                have h6 := (hc c (by omega)).2 ⟨j, a, hj, h1, hc1, hc2⟩
                rw [h5] at h6; cases h6
              · omega
            · exact ha i (by omega)
          · dsimp only
            rw [a1 c hcl, Bool.or_eq_true, decide_eq_true_eq, hc c hcl]
            constructor
            · rintro (h | ⟨i, a, h1, h2⟩)
              · exact ⟨n, e, by omega, he, by omega, by omega⟩
              · exact ⟨i, a, by omega, h2⟩
            · rintro ⟨i, a, h1, h2, h3, h4⟩
              by_cases ei : i = n
              · subst ei
                rw [he] at h2; cases h2
                exact .inl (by omega)
              · exact .inr ⟨i, a, by omega, h2, h3, h4⟩
        | none =>
          rw [hf] at hw
          rw [hw, if_neg (fun h9 => absurd h9.1 (by decide))] at hu2
          refine ⟨fun m2 h => (by rw [hu2] at h; cases h), fun _ hall => ?_⟩
          obtain ⟨c, h1, h2, h3⟩ := withF_none hml hfn hf
          obtain ⟨i, a, h4, h5, h6, h7⟩ := (hc c (by omega)).1 h3
          have h8 := (hall n (by omega)).2
          unfold apartTo at h8
          rw [List.all_eq_true] at h8
          have h9 := h8 i (List.mem_range.2 h4)
          obtain ⟨a', g1, g2, g3⟩ := hin i h4
          rw [h5] at g1; cases g1
          rw [g2, hD] at h9
          unfold overE at h9
          rw [Bool.not_eq_true', Bool.and_eq_false_iff, decide_eq_false_iff_not, decide_eq_false_iff_not] at h9
          omega
      · rw [if_neg (fun h9 => ho (by rw [← goodL_one]; exact h9.2))] at hu2
        refine ⟨fun m2 h => (by rw [hu2] at h; cases h), fun _ hall => ?_⟩
        have h8 := (hall n (by omega)).1
        rw [hone] at h8
        exact ho h8
theorem goodI_eq (l : List Ent) : goodI l = rGoodL l := by
  obtain ⟨h1, h2⟩ := used_spec l l.length (Nat.le_refl _)
  have hu : (usedTo l l.length).isSome = true ↔ apartAll l l.length := by
    cases hu : usedTo l l.length with
    | none => exact ⟨fun h => (by cases h), fun h => absurd h (h2 hu)⟩
    | some m => exact ⟨fun _ => (h1 m hu).1, fun _ => rfl⟩
  rw [Bool.eq_iff_iff]
  unfold goodI rGoodL rGoodTo okAt risesL risesTo
  rw [Bool.and_eq_true, hu]
  simp only [List.all_eq_true, List.mem_range, Bool.and_eq_true]
  constructor
  · rintro ⟨a, b⟩ i hi
    exact ⟨⟨(b i hi).1, a i hi⟩, (b i hi).2⟩
  · intro h
    exact ⟨fun i hi => (h i hi).1.2, fun i hi => ⟨(h i hi).1.1, (h i hi).2⟩⟩
end Go.Proofs.Ytomgjapjeckokaa
namespace Go.Proofs.Ytomgjapjeckokaa
open Go.RowKit Go.Shelf Go.Lib

theorem rGoodTo_succ (l : List Ent) (n : Nat) : rGoodTo l (n + 1) = (rGoodTo l n && (okAt l n && apartTo l n n)) := by
  simp [rGoodTo, List.range_succ, List.all_append]
theorem rGoodTo_stop {l : List Ent} {n m : Nat} (h : rGoodTo l n = false) (hm : n ≤ m) : rGoodTo l m = false := by
  induction m with
  | zero => obtain rfl : n = 0 := by omega
            exact h
  | succ m ih =>
    by_cases e : n = m + 1
    · rw [← e]; exact h
    · rw [rGoodTo_succ, ih (by omega)]; rfl
theorem rGoodTo_at {l : List Ent} {n j : Nat} (h : rGoodTo l n = true) (hj : j < n) : okAt l j = true := by
  unfold rGoodTo at h
  rw [List.all_eq_true] at h
  have h9 := h j (List.mem_range.2 hj)
  rw [Bool.and_eq_true] at h9
  exact h9.1
theorem apartTo_succ (l : List Ent) (i k : Nat) : apartTo l i (k + 1) = (apartTo l i k && !overE (l.getD k entD) (l.getD i entD)) := by
  simp [apartTo, List.range_succ, List.all_append]
theorem apartTo_stop {l : List Ent} {i n m : Nat} (h : apartTo l i n = false) (hm : n ≤ m) : apartTo l i m = false := by
  induction m with
  | zero => obtain rfl : n = 0 := by omega
            exact h
  | succ m ih =>
    by_cases e : n = m + 1
    · rw [← e]; exact h
    · rw [apartTo_succ, ih (by omega)]; rfl

set_option maxRecDepth 100000 in
set_option maxHeartbeats 4000000 in
theorem rGood_any (l : List Ent) (v : Value) (w : World) (hs : Sl w 35 encE v l) (hk : ∀ e ∈ l, e.key.length = 32) :
    Calls Try.prog 15 #[v] w fun e w' => e = .returned (.bool (rGoodL l)) ∧ Below w.heap.size w w' := by
  obtain ⟨n₀, hn₀⟩ : ∃ n, w.heap.size = n := ⟨_, rfl⟩
  obtain ⟨p, cp, rfl, hlc⟩ := hs.shape
  unfold maxLen at hlc
  have B0 : Below n₀ w w := Below.refl _ _
  obtain ⟨L, hL⟩ : ∃ x, l.length = x := ⟨_, rfl⟩
  obtain ⟨rb, hrb⟩ : ∃ r, rGoodL l = r := ⟨_, rfl⟩
  have hrb2 : rGoodTo l L = rb := by rw [← hrb, ← hL]; rfl
  rw [hL] at hs hlc ⊢
  rw [hrb, hn₀]
  clear hrb
  replace hL := hid hL
  replace hs := hid hs
  replace hn₀ := hid hn₀
  go_enter Try.func15, Try.ntmps15
  go_wp2_with (fail)
  go_loopw [3] (fun iv wr => ∃ k : Nat, k ≤ L ∧ iv = .int .i64 k ∧ rGoodTo l k = true ∧ Below n₀ w wr) (fun iv _ => L - (RowKit.intOf iv).toNat)
  case atStart => exact ⟨0, Nat.zero_le _, rfl, rfl, B0⟩
  case round =>
    obtain ⟨k, hkL, rfl, hacc, qB⟩ := hrel
    clear B0
    by_cases hlt : k < L
    · have hkI : (k : Int) < (L : Int) := by omega
      obtain ⟨e2, he2⟩ : ∃ e, l[k]? = some e := ⟨_, List.getElem?_eq_getElem (by rw [hL.out]; omega)⟩
      have hk2 := hk e2 (List.mem_of_getElem? he2)
      obtain ⟨b, o, c, he, -, -, hc⟩ := hs.out.open (by rintro rfl; simp at he2)
      obtain ⟨rfl, -, rfl⟩ := Value.slice.inj he
      clear he
      have hcB : ∀ W, Below n₀ w W → ∀ i e, l[i]? = some e → W.rangeAt b (o + i * 35) (encE e) := fun W hW i e h => (Kept.of_below (hn₀.out ▸ hW : Below w.heap.size w W) 0).range (hc i e h)
      have qB2 : Below n₀ w wr.drew := qB.drewN 1
      have hst : (fun W => Below wr.drew.heap.size wr.drew W) wr.drew := Below.refl _ _
      have hx2 : ∀ W, Below wr.drew.heap.size wr.drew W → W.rangeAt b (o + k * 35) (encE e2) := fun W h => (Kept.of_below h 0).range (hcB _ qB2 k e2 he2)
      have hy2 := hid (fun W (h : Below wr.drew.heap.size wr.drew W) => range_key (hx2 W h))
      have hi2 : (Try.prog.info? 48).map (·.size) = some (encE e2).length := by rw [encE_len, hk2]; kernel_rfl
      have hik2 : (Try.prog.info? 46).map (·.size) = some (keyV e2.key).length := by rw [keyV_len, hk2]; kernel_rfl
      have hstep := rGoodTo_succ l k
      rw [hacc, Bool.true_and] at hstep
      obtain ⟨ob, ho⟩ : ∃ x, oneE e2 = x := ⟨_, rfl⟩
      have cO := hid (fun W (_ : Below wr.drew.heap.size wr.drew W) => by have h := One_any e2 W hk2; rw [ho] at h; exact h)
      have hone : oneAt l k = ob := by unfold oneAt; rw [he2, ← ho]
      have hkey2 : keyAt l k = e2.key := keyAt_of he2
      replace hx2 := hid hx2
      replace hcB := hid hcB
      replace hacc := hid hacc
      replace he2 := hid he2
      clear hc qB
      cases ob with
      | false =>
        have hrf : rb = false := by
          rw [← hrb2]
          refine rGoodTo_stop (n := k + 1) ?_ (by omega)
          rw [hstep]; unfold okAt; rw [hone]; rfl
        clear hstep hrb2 hone hkey2 ho
        subst hrf
        go_upto_region 4 with (fail)
        refine wp_region_held_drew (S := (fun W => Below wr.drew.heap.size wr.drew W)) (by kernel_rfl) hst (fun hHeld => ?_)
        generalize wr.drew = W5 at *
        refine wpAnyH_take (i := 0) (oi := ⟨some 11, _, _, _, _, _⟩) (v := ?_) rfl (by kernel_rfl) (by kernel_rfl) (by kernel_rfl) (fun _ _ _ h => h) (Or.inl ⟨by rfl, ?_⟩) (by assumption) ?_
        rotate_left
        · intro w hSw; (try dsimp only at hSw); go_simp <;> with_reducible rfl
        try simp only [Act.put, List.setIfInBounds_toArray, List.set_cons_zero, List.set_cons_succ]
        refine wpAnyH_take (i := 1) (oi := ⟨some 12, _, _, _, _, _⟩) (v := ?_) rfl (by kernel_rfl) (by kernel_rfl) (by kernel_rfl) (fun _ _ _ h => h) (Or.inl ⟨by rfl, ?_⟩) (by assumption) ?_
        rotate_left
        · intro w hSw; (try dsimp only at hSw); go_simp <;> with_reducible rfl
        try simp only [Act.put, List.setIfInBounds_toArray, List.set_cons_zero, List.set_cons_succ]
        refine wpAnyH_take (i := 2) (oi := ⟨some 13, _, _, _, _, _⟩) (v := ?_) rfl (by kernel_rfl) (by kernel_rfl) (by kernel_rfl) (fun _ _ _ h => h) (Or.inl ⟨by rfl, ?_⟩) (by assumption) ?_
        rotate_left
        · intro w hSw; (try dsimp only at hSw); go_simp <;> with_reducible rfl
        try simp only [Act.put, List.setIfInBounds_toArray, List.set_cons_zero, List.set_cons_succ]
        refine wpAnyH_take (i := 3) (oi := ⟨some 14, _, _, _, _, _⟩) rfl (by kernel_rfl) (by kernel_rfl) (by kernel_rfl) (fun _ _ _ h => h) (yieldsIf_load_mid (by rfl) 48 _ rfl b (o + k * 35) rfl (encE e2) _ (fun w h => hx2.out w h) Try.underlying48 rfl hi2) (by assumption) ?_
        try simp only [Act.put, List.setIfInBounds_toArray, List.set_cons_zero, List.set_cons_succ]
        refine wpAnyH_ready (rs := [4]) (by kernel_rfl) (by simp) ?_
        refine AllReadyH.cons rfl (fun K hK => ?_) AllReadyH.nil
        go_simp
        refine (cO.out _ hHeld).mono ?_
        rintro r w7 ⟨rfl, b7⟩
        have b8 := hHeld.trans (b7.mono hHeld.size)
        clear hHeld b7
        refine hK.out _ _ (b8) (fun hHeld => ?_)
        clear hK K
        try simp only [Act.put, List.setIfInBounds_toArray, List.set_cons_zero, List.set_cons_succ]
        refine wpAnyH_take (i := 5) (oi := ⟨some 16, _, _, _, _, _⟩) (v := ?_) rfl (by kernel_rfl) (by kernel_rfl) (by kernel_rfl) (fun _ _ _ h => h) (Or.inl ⟨by rfl, ?_⟩) (by assumption) ?_
        rotate_left
        · intro w hSw; (try dsimp only at hSw); go_simp <;> with_reducible rfl
        try simp only [Act.put, List.setIfInBounds_toArray, List.set_cons_zero, List.set_cons_succ]
        refine wpAnyH_take (i := 6) (oi := ⟨some 17, _, _, _, _, _⟩) (v := ?_) rfl (by kernel_rfl) (by kernel_rfl) (by kernel_rfl) (fun _ _ _ h => h) (Or.inl ⟨by rfl, ?_⟩) (by assumption) ?_
        rotate_left
        · intro w hSw; (try dsimp only at hSw); go_simp <;> with_reducible rfl
        try simp only [Act.put, List.setIfInBounds_toArray, List.set_cons_zero, List.set_cons_succ]
        refine wpAnyH_take (i := 7) (oi := ⟨some 18, _, _, _, _, _⟩) rfl (by kernel_rfl) (by kernel_rfl) (by kernel_rfl) (fun _ _ _ h => h) (Or.inr ⟨by rfl, rfl⟩) (by assumption) ?_
        try simp only [Act.put, List.setIfInBounds_toArray, List.set_cons_zero, List.set_cons_succ]
        refine wpAnyH_take (i := 8) (oi := ⟨some 19, _, _, _, _, _⟩) rfl (by kernel_rfl) (by kernel_rfl) (by kernel_rfl) (fun _ _ _ h => h) (Or.inr ⟨by rfl, rfl⟩) (by assumption) ?_
        try simp only [Act.put, List.setIfInBounds_toArray, List.set_cons_zero, List.set_cons_succ]
        refine wpAnyH_take (i := 9) (oi := ⟨some 20, _, _, _, _, _⟩) rfl (by kernel_rfl) (by kernel_rfl) (by kernel_rfl) (fun _ _ _ h => h) (Or.inr ⟨by rfl, rfl⟩) (by assumption) ?_
        try simp only [Act.put, List.setIfInBounds_toArray, List.set_cons_zero, List.set_cons_succ]
        refine wpAnyH_take (i := 10) (oi := ⟨some 21, _, _, _, _, _⟩) rfl (by kernel_rfl) (by kernel_rfl) (by kernel_rfl) (fun _ _ _ h => h) (Or.inr ⟨by rfl, rfl⟩) (by assumption) ?_
        try simp only [Act.put, List.setIfInBounds_toArray, List.set_cons_zero, List.set_cons_succ]
        refine wpAnyH_take (i := 11) (oi := ⟨some 22, _, _, _, _, _⟩) rfl (by kernel_rfl) (by kernel_rfl) (by kernel_rfl) (fun _ _ _ h => h) (Or.inr ⟨by rfl, rfl⟩) (by assumption) ?_
        try simp only [Act.put, List.setIfInBounds_toArray, List.set_cons_zero, List.set_cons_succ]
        refine wpAnyH_take (i := 12) (oi := ⟨some 23, _, _, _, _, _⟩) rfl (by kernel_rfl) (by kernel_rfl) (by kernel_rfl) (fun _ _ _ h => h) (Or.inr ⟨by rfl, rfl⟩) (by assumption) ?_
        try simp only [Act.put, List.setIfInBounds_toArray, List.set_cons_zero, List.set_cons_succ]
        refine wpAnyH_take (i := 13) (oi := ⟨some 24, _, _, _, _, _⟩) rfl (by kernel_rfl) (by kernel_rfl) (by kernel_rfl) (fun _ _ _ h => h) (Or.inr ⟨by rfl, rfl⟩) (by assumption) ?_
        try simp only [Act.put, List.setIfInBounds_toArray, List.set_cons_zero, List.set_cons_succ]
        refine wpAnyH_take (i := 14) (oi := ⟨some 25, _, _, _, _, _⟩) rfl (by kernel_rfl) (by kernel_rfl) (by kernel_rfl) (fun _ _ _ h => h) (Or.inr ⟨by rfl, rfl⟩) (by assumption) ?_
        try simp only [Act.put, List.setIfInBounds_toArray, List.set_cons_zero, List.set_cons_succ]
        refine wpAnyH_take (i := 15) (oi := ⟨some 26, _, _, _, _, _⟩) rfl (by kernel_rfl) (by kernel_rfl) (by kernel_rfl) (fun _ _ _ h => h) (Or.inr ⟨by rfl, rfl⟩) (by assumption) ?_
        try simp only [Act.put, List.setIfInBounds_toArray, List.set_cons_zero, List.set_cons_succ]
        refine wpAnyH_take (i := 16) (oi := ⟨some 27, _, _, _, _, _⟩) rfl (by kernel_rfl) (by kernel_rfl) (by kernel_rfl) (fun _ _ _ h => h) (Or.inr ⟨by rfl, rfl⟩) (by assumption) ?_
        try simp only [Act.put, List.setIfInBounds_toArray, List.set_cons_zero, List.set_cons_succ]
        refine wpAnyH_take (i := 17) (oi := ⟨some 28, _, _, _, _, _⟩) rfl (by kernel_rfl) (by kernel_rfl) (by kernel_rfl) (fun _ _ _ h => h) (Or.inr ⟨by rfl, rfl⟩) (by assumption) ?_
        try simp only [Act.put, List.setIfInBounds_toArray, List.set_cons_zero, List.set_cons_succ]
        refine wpAnyH_take (i := 18) (oi := ⟨some 29, _, _, _, _, _⟩) rfl (by kernel_rfl) (by kernel_rfl) (by kernel_rfl) (fun _ _ _ h => h) (Or.inr ⟨by rfl, rfl⟩) (by assumption) ?_
        try simp only [Act.put, List.setIfInBounds_toArray, List.set_cons_zero, List.set_cons_succ]
        refine wpAnyH_take (i := 19) (oi := ⟨some 30, _, _, _, _, _⟩) rfl (by kernel_rfl) (by kernel_rfl) (by kernel_rfl) (fun _ _ _ h => h) (Or.inr ⟨by rfl, rfl⟩) (by assumption) ?_
        try simp only [Act.put, List.setIfInBounds_toArray, List.set_cons_zero, List.set_cons_succ]
        refine wpAnyH_take (i := 20) (oi := ⟨some 31, _, _, _, _, _⟩) rfl (by kernel_rfl) (by kernel_rfl) (by kernel_rfl) (fun _ _ _ h => h) (Or.inr ⟨by rfl, rfl⟩) (by assumption) ?_
        try simp only [Act.put, List.setIfInBounds_toArray, List.set_cons_zero, List.set_cons_succ]
        refine wpAnyH_take (i := 21) (oi := ⟨some 32, _, _, _, _, _⟩) rfl (by kernel_rfl) (by kernel_rfl) (by kernel_rfl) (fun _ _ _ h => h) (Or.inr ⟨by rfl, rfl⟩) (by assumption) ?_
        try simp only [Act.put, List.setIfInBounds_toArray, List.set_cons_zero, List.set_cons_succ]
        refine wpAnyH_take (i := 22) (oi := ⟨some 33, _, _, _, _, _⟩) rfl (by kernel_rfl) (by kernel_rfl) (by kernel_rfl) (fun _ _ _ h => h) (Or.inr ⟨by rfl, rfl⟩) (by assumption) ?_
        try simp only [Act.put, List.setIfInBounds_toArray, List.set_cons_zero, List.set_cons_succ]
        refine wpAnyH_take (i := 23) (oi := ⟨some 34, _, _, _, _, _⟩) rfl (by kernel_rfl) (by kernel_rfl) (by kernel_rfl) (fun _ _ _ h => h) (Or.inr ⟨by rfl, rfl⟩) (by assumption) ?_
        try simp only [Act.put, List.setIfInBounds_toArray, List.set_cons_zero, List.set_cons_succ]
        refine wpAnyH_take (i := 24) (oi := ⟨some 35, _, _, _, _, _⟩) (v := ?_) rfl (by kernel_rfl) (by kernel_rfl) (by kernel_rfl) (fun _ _ _ h => h) (Or.inl ⟨by rfl, ?_⟩) (by assumption) ?_
        rotate_left
        · intro w hSw; (try dsimp only at hSw); go_simp <;> with_reducible rfl
        try simp only [Act.put, List.setIfInBounds_toArray, List.set_cons_zero, List.set_cons_succ]
        refine wpAnyH_done (by kernel_rfl) ?_ _
        skip
        go_wp2_with (fail)
        go_ret
        exact ⟨rfl, qB2.trans (hHeld.mono (by have := qB2.size; have := hn₀.out; omega))⟩
      | true =>
        by_cases hk0 : k = 0
        · have hok1 : okAt l k = true := by unfold okAt; rw [hone, hk0]; rfl
          rw [hok1, Bool.true_and] at hstep
          have hok : apartTo l k k = true → rGoodTo l (k + 1) = true := fun h => hstep.trans h
          have hbad : apartTo l k k = false → rb = false := fun h => by rw [← hrb2]; exact rGoodTo_stop (hstep.trans h) (by omega)
          clear hstep hone hkey2 hok1
          replace ho := hid ho
          replace hrb2 := hid hrb2
          have hk0I : ¬ (0 : Int) < (k : Int) := by omega
          have hk0N : ¬ 0 < k := by omega
          replace hk0 := hid hk0
          go_upto_region 4 with (fail)
          refine wp_region_held_drew (S := (fun W => Below wr.drew.heap.size wr.drew W)) (by kernel_rfl) hst (fun hHeld => ?_)
          generalize wr.drew = W5 at *
          refine wpAnyH_take (i := 0) (oi := ⟨some 11, _, _, _, _, _⟩) (v := ?_) rfl (by kernel_rfl) (by kernel_rfl) (by kernel_rfl) (fun _ _ _ h => h) (Or.inl ⟨by rfl, ?_⟩) (by assumption) ?_
          rotate_left
          · intro w hSw; (try dsimp only at hSw); go_simp <;> with_reducible rfl
          try simp only [Act.put, List.setIfInBounds_toArray, List.set_cons_zero, List.set_cons_succ]
          refine wpAnyH_take (i := 1) (oi := ⟨some 12, _, _, _, _, _⟩) (v := ?_) rfl (by kernel_rfl) (by kernel_rfl) (by kernel_rfl) (fun _ _ _ h => h) (Or.inl ⟨by rfl, ?_⟩) (by assumption) ?_
          rotate_left
          · intro w hSw; (try dsimp only at hSw); go_simp <;> with_reducible rfl
          try simp only [Act.put, List.setIfInBounds_toArray, List.set_cons_zero, List.set_cons_succ]
          refine wpAnyH_take (i := 2) (oi := ⟨some 13, _, _, _, _, _⟩) (v := ?_) rfl (by kernel_rfl) (by kernel_rfl) (by kernel_rfl) (fun _ _ _ h => h) (Or.inl ⟨by rfl, ?_⟩) (by assumption) ?_
          rotate_left
          · intro w hSw; (try dsimp only at hSw); go_simp <;> with_reducible rfl
          try simp only [Act.put, List.setIfInBounds_toArray, List.set_cons_zero, List.set_cons_succ]
          refine wpAnyH_take (i := 3) (oi := ⟨some 14, _, _, _, _, _⟩) rfl (by kernel_rfl) (by kernel_rfl) (by kernel_rfl) (fun _ _ _ h => h) (yieldsIf_load_mid (by rfl) 48 _ rfl b (o + k * 35) rfl (encE e2) _ (fun w h => hx2.out w h) Try.underlying48 rfl hi2) (by assumption) ?_
          try simp only [Act.put, List.setIfInBounds_toArray, List.set_cons_zero, List.set_cons_succ]
          refine wpAnyH_ready (rs := [4]) (by kernel_rfl) (by simp) ?_
          refine AllReadyH.cons rfl (fun K hK => ?_) AllReadyH.nil
          go_simp
          refine (cO.out _ hHeld).mono ?_
          rintro r w7 ⟨rfl, b7⟩
          have b8 := hHeld.trans (b7.mono hHeld.size)
          clear hHeld b7
          refine hK.out _ _ (b8) (fun hHeld => ?_)
          clear hK K
          try simp only [Act.put, List.setIfInBounds_toArray, List.set_cons_zero, List.set_cons_succ]
          refine wpAnyH_take (i := 5) (oi := ⟨some 16, _, _, _, _, _⟩) (v := ?_) rfl (by kernel_rfl) (by kernel_rfl) (by kernel_rfl) (fun _ _ _ h => h) (Or.inl ⟨by rfl, ?_⟩) (by assumption) ?_
          rotate_left
          · intro w hSw; (try dsimp only at hSw); go_simp <;> with_reducible rfl
          try simp only [Act.put, List.setIfInBounds_toArray, List.set_cons_zero, List.set_cons_succ]
          refine wpAnyH_take (i := 6) (oi := ⟨some 17, _, _, _, _, _⟩) (v := ?_) rfl (by kernel_rfl) (by kernel_rfl) (by kernel_rfl) (fun _ _ _ h => h) (Or.inl ⟨by rfl, ?_⟩) (by assumption) ?_
          rotate_left
          · intro w hSw; (try dsimp only at hSw); go_simp <;> with_reducible rfl
          try simp only [Act.put, List.setIfInBounds_toArray, List.set_cons_zero, List.set_cons_succ]
          refine wpAnyH_take (i := 7) (oi := ⟨some 18, _, _, _, _, _⟩) (v := ?_) rfl (by kernel_rfl) (by kernel_rfl) (by kernel_rfl) (fun _ _ _ h => h) (Or.inl ⟨by rfl, ?_⟩) (by assumption) ?_
          rotate_left
          · intro w hSw; (try dsimp only at hSw); go_simp <;> with_reducible rfl
          try simp only [Act.put, List.setIfInBounds_toArray, List.set_cons_zero, List.set_cons_succ]
          refine wpAnyH_take (i := 8) (oi := ⟨some 19, _, _, _, _, _⟩) (v := ?_) rfl (by kernel_rfl) (by kernel_rfl) (by kernel_rfl) (fun _ _ _ h => h) (Or.inl ⟨by rfl, ?_⟩) (by assumption) ?_
          rotate_left
          · intro w hSw; (try dsimp only at hSw); go_simp <;> with_reducible rfl
          try simp only [Act.put, List.setIfInBounds_toArray, List.set_cons_zero, List.set_cons_succ]
          refine wpAnyH_take (i := 9) (oi := ⟨some 20, _, _, _, _, _⟩) (v := ?_) rfl (by kernel_rfl) (by kernel_rfl) (by kernel_rfl) (fun _ _ _ h => h) (Or.inl ⟨by rfl, ?_⟩) (by assumption) ?_
          rotate_left
          · intro w hSw; (try dsimp only at hSw); go_simp <;> with_reducible rfl
          try simp only [Act.put, List.setIfInBounds_toArray, List.set_cons_zero, List.set_cons_succ]
          refine wpAnyH_take (i := 10) (oi := ⟨some 21, _, _, _, _, _⟩) rfl (by kernel_rfl) (by kernel_rfl) (by kernel_rfl) (fun _ _ _ h => h) (Or.inr ⟨by rfl, rfl⟩) (by assumption) ?_
          try simp only [Act.put, List.setIfInBounds_toArray, List.set_cons_zero, List.set_cons_succ]
          refine wpAnyH_take (i := 11) (oi := ⟨some 22, _, _, _, _, _⟩) rfl (by kernel_rfl) (by kernel_rfl) (by kernel_rfl) (fun _ _ _ h => h) (Or.inr ⟨by rfl, rfl⟩) (by assumption) ?_
          try simp only [Act.put, List.setIfInBounds_toArray, List.set_cons_zero, List.set_cons_succ]
          refine wpAnyH_take (i := 12) (oi := ⟨some 23, _, _, _, _, _⟩) rfl (by kernel_rfl) (by kernel_rfl) (by kernel_rfl) (fun _ _ _ h => h) (Or.inr ⟨by rfl, rfl⟩) (by assumption) ?_
          try simp only [Act.put, List.setIfInBounds_toArray, List.set_cons_zero, List.set_cons_succ]
          refine wpAnyH_take (i := 13) (oi := ⟨some 24, _, _, _, _, _⟩) rfl (by kernel_rfl) (by kernel_rfl) (by kernel_rfl) (fun _ _ _ h => h) (Or.inr ⟨by rfl, rfl⟩) (by assumption) ?_
          try simp only [Act.put, List.setIfInBounds_toArray, List.set_cons_zero, List.set_cons_succ]
          refine wpAnyH_take (i := 14) (oi := ⟨some 25, _, _, _, _, _⟩) rfl (by kernel_rfl) (by kernel_rfl) (by kernel_rfl) (fun _ _ _ h => h) (Or.inr ⟨by rfl, rfl⟩) (by assumption) ?_
          try simp only [Act.put, List.setIfInBounds_toArray, List.set_cons_zero, List.set_cons_succ]
          refine wpAnyH_take (i := 15) (oi := ⟨some 26, _, _, _, _, _⟩) rfl (by kernel_rfl) (by kernel_rfl) (by kernel_rfl) (fun _ _ _ h => h) (Or.inr ⟨by rfl, rfl⟩) (by assumption) ?_
          try simp only [Act.put, List.setIfInBounds_toArray, List.set_cons_zero, List.set_cons_succ]
          refine wpAnyH_take (i := 16) (oi := ⟨some 27, _, _, _, _, _⟩) rfl (by kernel_rfl) (by kernel_rfl) (by kernel_rfl) (fun _ _ _ h => h) (Or.inr ⟨by rfl, rfl⟩) (by assumption) ?_
          try simp only [Act.put, List.setIfInBounds_toArray, List.set_cons_zero, List.set_cons_succ]
          refine wpAnyH_take (i := 17) (oi := ⟨some 28, _, _, _, _, _⟩) rfl (by kernel_rfl) (by kernel_rfl) (by kernel_rfl) (fun _ _ _ h => h) (Or.inr ⟨by rfl, rfl⟩) (by assumption) ?_
          try simp only [Act.put, List.setIfInBounds_toArray, List.set_cons_zero, List.set_cons_succ]
          refine wpAnyH_take (i := 18) (oi := ⟨some 29, _, _, _, _, _⟩) rfl (by kernel_rfl) (by kernel_rfl) (by kernel_rfl) (fun _ _ _ h => h) (Or.inr ⟨by rfl, rfl⟩) (by assumption) ?_
          try simp only [Act.put, List.setIfInBounds_toArray, List.set_cons_zero, List.set_cons_succ]
          refine wpAnyH_take (i := 19) (oi := ⟨some 30, _, _, _, _, _⟩) rfl (by kernel_rfl) (by kernel_rfl) (by kernel_rfl) (fun _ _ _ h => h) (Or.inr ⟨by rfl, rfl⟩) (by assumption) ?_
          try simp only [Act.put, List.setIfInBounds_toArray, List.set_cons_zero, List.set_cons_succ]
          refine wpAnyH_take (i := 20) (oi := ⟨some 31, _, _, _, _, _⟩) rfl (by kernel_rfl) (by kernel_rfl) (by kernel_rfl) (fun _ _ _ h => h) (Or.inr ⟨by rfl, rfl⟩) (by assumption) ?_
          try simp only [Act.put, List.setIfInBounds_toArray, List.set_cons_zero, List.set_cons_succ]
          refine wpAnyH_take (i := 21) (oi := ⟨some 32, _, _, _, _, _⟩) rfl (by kernel_rfl) (by kernel_rfl) (by kernel_rfl) (fun _ _ _ h => h) (Or.inr ⟨by rfl, rfl⟩) (by assumption) ?_
          try simp only [Act.put, List.setIfInBounds_toArray, List.set_cons_zero, List.set_cons_succ]
          refine wpAnyH_take (i := 22) (oi := ⟨some 33, _, _, _, _, _⟩) rfl (by kernel_rfl) (by kernel_rfl) (by kernel_rfl) (fun _ _ _ h => h) (Or.inr ⟨by rfl, rfl⟩) (by assumption) ?_
          try simp only [Act.put, List.setIfInBounds_toArray, List.set_cons_zero, List.set_cons_succ]
          refine wpAnyH_take (i := 23) (oi := ⟨some 34, _, _, _, _, _⟩) (v := ?_) rfl (by kernel_rfl) (by kernel_rfl) (by kernel_rfl) (fun _ _ _ h => h) (Or.inl ⟨by rfl, ?_⟩) (by assumption) ?_
          rotate_left
          · intro w hSw; (try dsimp only at hSw); go_simp <;> with_reducible rfl
          try simp only [Act.put, List.setIfInBounds_toArray, List.set_cons_zero, List.set_cons_succ]
          refine wpAnyH_take (i := 24) (oi := ⟨some 35, _, _, _, _, _⟩) (v := ?_) rfl (by kernel_rfl) (by kernel_rfl) (by kernel_rfl) (fun _ _ _ h => h) (Or.inl ⟨by rfl, ?_⟩) (by assumption) ?_
          rotate_left
          · intro w hSw; (try dsimp only at hSw); go_simp <;> with_reducible rfl
          try simp only [Act.put, List.setIfInBounds_toArray, List.set_cons_zero, List.set_cons_succ]
          refine wpAnyH_done (by kernel_rfl) ?_ _
          skip
          have qB7 : Below n₀ w w7 := qB2.trans (hHeld.mono (by have := qB2.size; have := hn₀.out; omega))
          clear hHeld qB2 cO hst
          replace hbad := hid hbad
          replace hok := hid hok
          go_wp2_with (fail)
          go_loopw [4] (fun jv wz => ∃ j : Nat, j ≤ k ∧ jv = .int .i64 j ∧ apartTo l k j = true ∧ Below n₀ w wz) (fun jv _ => k - (RowKit.intOf jv).toNat)
          case atStart => exact ⟨0, Nat.zero_le _, rfl, rfl, qB7⟩
          case round =>
            obtain ⟨j, hjk, rfl, hap, zB⟩ := hrel
            clear qB7
            by_cases hjl : j < k
            · have hjkI : (j : Int) < (k : Int) := by omega
              have hjLI : (j : Int) < (L : Int) := by omega
              obtain ⟨ea, hea⟩ : ∃ e, l[j]? = some e := ⟨_, List.getElem?_eq_getElem (by have := hL.out; omega)⟩
              have hka := hk ea (List.mem_of_getElem? hea)
              have hoa : oneE ea = true := by
                have h9 := rGoodTo_at hacc.out hjl
                unfold okAt oneAt at h9
                rw [hea, Bool.and_eq_true] at h9
                exact h9.1
              obtain ⟨p1, p2, p3, p4, p5, -, -⟩ := oneE_is hoa
              obtain ⟨q1, q2, q3, q4, q5, -, -⟩ := oneE_is ho.out
              have zB2 : Below n₀ w wr.drew := zB.drewN 1
              obtain ⟨c1, c2, -⟩ := cell_place (hcB.out _ zB2 k e2 he2.out) hk2
              obtain ⟨c3, c4, -⟩ := cell_place (hcB.out _ zB2 j ea hea) hka
              have hov : overE (l.getD j entD) (l.getD k entD) = (decide (ea.place < e2.place + e2.blocks) && decide (e2.place < ea.place + ea.blocks)) := by
                rw [List.getD_eq_getElem?_getD, List.getD_eq_getElem?_getD, hea, he2.out]; rfl
              have hstp := apartTo_succ l k j
              rw [hap, Bool.true_and, hov] at hstp
              have hw1 : IntKind.i64.wrap (e2.place + e2.blocks) = e2.place + e2.blocks := by rw [IntKind.wrap_i64]; omega
              have hw2 : IntKind.i64.wrap (ea.place + ea.blocks) = ea.place + ea.blocks := by rw [IntKind.wrap_i64]; omega
              clear hov hea hap zB hoa p1 p2 p3 p4 p5 q1 q2 q3 q4 q5
              have hst : (fun W => W.cell? ⟨b, o + k * 35 + 32, none⟩ = some (.int .i64 e2.place) ∧ W.cell? ⟨b, o + k * 35 + 33, none⟩ = some (.int .i64 e2.blocks) ∧ W.cell? ⟨b, o + j * 35 + 32, none⟩ = some (.int .i64 ea.place) ∧ W.cell? ⟨b, o + j * 35 + 33, none⟩ = some (.int .i64 ea.blocks)) wr.drew := ⟨c1, c2, c3, c4⟩
              clear c1 c2 c3 c4
              obtain ⟨pi, hpi⟩ : ∃ x, e2.place = x := ⟨_, rfl⟩
              obtain ⟨bi, hbi⟩ : ∃ x, e2.blocks = x := ⟨_, rfl⟩
              obtain ⟨pj, hpj⟩ : ∃ x, ea.place = x := ⟨_, rfl⟩
              obtain ⟨bj, hbj⟩ : ∃ x, ea.blocks = x := ⟨_, rfl⟩
              rw [hpi, hbi, hpj, hbj] at hst hstp
              rw [hpi, hbi] at hw1
              rw [hpj, hbj] at hw2
              clear hpi hbi hpj hbj
              by_cases m1 : pj < pi + bi
              · by_cases m2 : pi < pj + bj
                · rw [decide_eq_true m1, decide_eq_true m2] at hstp
                  obtain rfl := hbad.out (apartTo_stop hstp (by omega))
                  clear hstp
                  go_upto_region 9 with (fail)
                  refine wp_region_held_drew (S := (fun W => W.cell? ⟨b, o + k * 35 + 32, none⟩ = some (.int .i64 pi) ∧ W.cell? ⟨b, o + k * 35 + 33, none⟩ = some (.int .i64 bi) ∧ W.cell? ⟨b, o + j * 35 + 32, none⟩ = some (.int .i64 pj) ∧ W.cell? ⟨b, o + j * 35 + 33, none⟩ = some (.int .i64 bj))) (by kernel_rfl) hst (fun hHeld => ?_)
                  refine wpAnyH_take (i := 0) (oi := ⟨some 41, _, _, _, _, _⟩) (v := ?_) rfl (by kernel_rfl) (by kernel_rfl) (by kernel_rfl) (fun _ _ _ h => h) (Or.inl ⟨by rfl, ?_⟩) (by assumption) ?_
                  rotate_left
                  · intro w hSw; (try dsimp only at hSw); go_simp <;> with_reducible rfl
                  try simp only [Act.put, List.setIfInBounds_toArray, List.set_cons_zero, List.set_cons_succ]
                  refine wpAnyH_take (i := 1) (oi := ⟨some 42, _, _, _, _, _⟩) (v := ?_) rfl (by kernel_rfl) (by kernel_rfl) (by kernel_rfl) (fun _ _ _ h => h) (Or.inl ⟨by rfl, ?_⟩) (by assumption) ?_
                  rotate_left
                  · intro w hSw; (try dsimp only at hSw); go_simp <;> with_reducible rfl
                  try simp only [Act.put, List.setIfInBounds_toArray, List.set_cons_zero, List.set_cons_succ]
                  refine wpAnyH_take (i := 2) (oi := ⟨some 43, _, _, _, _, _⟩) (v := ?_) rfl (by kernel_rfl) (by kernel_rfl) (by kernel_rfl) (fun _ _ _ h => h) (Or.inl ⟨by rfl, ?_⟩) (by assumption) ?_
                  rotate_left
                  · intro w hSw; (try dsimp only at hSw); go_simp <;> with_reducible rfl
                  try simp only [Act.put, List.setIfInBounds_toArray, List.set_cons_zero, List.set_cons_succ]
                  refine wpAnyH_take (i := 3) (oi := ⟨some 44, _, _, _, _, _⟩) (v := ?_) rfl (by kernel_rfl) (by kernel_rfl) (by kernel_rfl) (fun _ _ _ h => h) (Or.inl ⟨by rfl, ?_⟩) (by assumption) ?_
                  rotate_left
                  · intro w hSw; (try dsimp only at hSw); go_simp <;> with_reducible rfl
                  try simp only [Act.put, List.setIfInBounds_toArray, List.set_cons_zero, List.set_cons_succ]
                  refine wpAnyH_take (i := 4) (oi := ⟨some 45, _, _, _, _, _⟩) (v := ?_) rfl (by kernel_rfl) (by kernel_rfl) (by kernel_rfl) (fun _ _ _ h => h) (Or.inl ⟨by rfl, ?_⟩) (by assumption) ?_
                  rotate_left
                  · intro w hSw; (try dsimp only at hSw); go_simp <;> with_reducible rfl
                  try simp only [Act.put, List.setIfInBounds_toArray, List.set_cons_zero, List.set_cons_succ]
                  refine wpAnyH_take (i := 5) (oi := ⟨some 46, _, _, _, _, _⟩) (v := ?_) rfl (by kernel_rfl) (by kernel_rfl) (by kernel_rfl) (fun _ _ _ h => h) (Or.inl ⟨by rfl, ?_⟩) (by assumption) ?_
                  rotate_left
                  · intro w hSw; (try dsimp only at hSw); go_simp <;> with_reducible rfl
                  try simp only [Act.put, List.setIfInBounds_toArray, List.set_cons_zero, List.set_cons_succ]
                  refine wpAnyH_take (i := 6) (oi := ⟨some 47, _, _, _, _, _⟩) (v := ?_) rfl (by kernel_rfl) (by kernel_rfl) (by kernel_rfl) (fun _ _ _ h => h) (Or.inl ⟨by rfl, ?_⟩) (by assumption) ?_
                  rotate_left
                  · intro w hSw; (try dsimp only at hSw); go_simp <;> with_reducible rfl
                  try simp only [Act.put, List.setIfInBounds_toArray, List.set_cons_zero, List.set_cons_succ]
                  refine wpAnyH_take (i := 7) (oi := ⟨some 48, _, _, _, _, _⟩) (v := ?_) rfl (by kernel_rfl) (by kernel_rfl) (by kernel_rfl) (fun _ _ _ h => h) (Or.inl ⟨by rfl, ?_⟩) (by assumption) ?_
                  rotate_left
                  · intro w hSw; (try dsimp only at hSw); go_simp <;> with_reducible rfl
                  try simp only [Act.put, List.setIfInBounds_toArray, List.set_cons_zero, List.set_cons_succ]
                  refine wpAnyH_take (i := 8) (oi := ⟨some 49, _, _, _, _, _⟩) (v := ?_) rfl (by kernel_rfl) (by kernel_rfl) (by kernel_rfl) (fun _ _ _ h => h) (Or.inl ⟨by rfl, ?_⟩) (by assumption) ?_
                  rotate_left
                  · intro w hSw; (try dsimp only at hSw); go_simp <;> with_reducible rfl
                  try simp only [Act.put, List.setIfInBounds_toArray, List.set_cons_zero, List.set_cons_succ]
                  refine wpAnyH_take (i := 9) (oi := ⟨some 50, _, _, _, _, _⟩) (v := ?_) rfl (by kernel_rfl) (by kernel_rfl) (by kernel_rfl) (fun _ _ _ h => h) (Or.inl ⟨by rfl, ?_⟩) (by assumption) ?_
                  rotate_left
                  · intro w hSw; (try dsimp only at hSw); go_simp <;> with_reducible rfl
                  try simp only [Act.put, List.setIfInBounds_toArray, List.set_cons_zero, List.set_cons_succ]
                  refine wpAnyH_take (i := 10) (oi := ⟨some 51, _, _, _, _, _⟩) (v := ?_) rfl (by kernel_rfl) (by kernel_rfl) (by kernel_rfl) (fun _ _ _ h => h) (Or.inl ⟨by rfl, ?_⟩) (by assumption) ?_
                  rotate_left
                  · intro w hSw; (try dsimp only at hSw); go_simp <;> with_reducible rfl
                  try simp only [Act.put, List.setIfInBounds_toArray, List.set_cons_zero, List.set_cons_succ]
                  refine wpAnyH_take (i := 11) (oi := ⟨some 52, _, _, _, _, _⟩) (v := ?_) rfl (by kernel_rfl) (by kernel_rfl) (by kernel_rfl) (fun _ _ _ h => h) (Or.inl ⟨by rfl, ?_⟩) (by assumption) ?_
                  rotate_left
                  · intro w hSw; (try dsimp only at hSw); go_simp <;> with_reducible rfl
                  try simp only [Act.put, List.setIfInBounds_toArray, List.set_cons_zero, List.set_cons_succ]
                  refine wpAnyH_take (i := 12) (oi := ⟨some 53, _, _, _, _, _⟩) (v := ?_) rfl (by kernel_rfl) (by kernel_rfl) (by kernel_rfl) (fun _ _ _ h => h) (Or.inl ⟨by rfl, ?_⟩) (by assumption) ?_
                  rotate_left
                  · intro w hSw; (try dsimp only at hSw); go_simp <;> with_reducible rfl
                  try simp only [Act.put, List.setIfInBounds_toArray, List.set_cons_zero, List.set_cons_succ]
                  refine wpAnyH_take (i := 13) (oi := ⟨some 54, _, _, _, _, _⟩) (v := ?_) rfl (by kernel_rfl) (by kernel_rfl) (by kernel_rfl) (fun _ _ _ h => h) (Or.inl ⟨by rfl, ?_⟩) (by assumption) ?_
                  rotate_left
                  · intro w hSw; (try dsimp only at hSw); go_simp <;> with_reducible rfl
                  try simp only [Act.put, List.setIfInBounds_toArray, List.set_cons_zero, List.set_cons_succ]
                  refine wpAnyH_take (i := 14) (oi := ⟨some 55, _, _, _, _, _⟩) (v := ?_) rfl (by kernel_rfl) (by kernel_rfl) (by kernel_rfl) (fun _ _ _ h => h) (Or.inl ⟨by rfl, ?_⟩) (by assumption) ?_
                  rotate_left
                  · intro w hSw; (try dsimp only at hSw); go_simp <;> with_reducible rfl
                  try simp only [Act.put, List.setIfInBounds_toArray, List.set_cons_zero, List.set_cons_succ]
                  refine wpAnyH_take (i := 15) (oi := ⟨some 56, _, _, _, _, _⟩) (v := ?_) rfl (by kernel_rfl) (by kernel_rfl) (by kernel_rfl) (fun _ _ _ h => h) (Or.inl ⟨by rfl, ?_⟩) (by assumption) ?_
                  rotate_left
                  · intro w hSw; (try dsimp only at hSw); go_simp <;> with_reducible rfl
                  try simp only [Act.put, List.setIfInBounds_toArray, List.set_cons_zero, List.set_cons_succ]
                  refine wpAnyH_take (i := 16) (oi := ⟨some 57, _, _, _, _, _⟩) (v := ?_) rfl (by kernel_rfl) (by kernel_rfl) (by kernel_rfl) (fun _ _ _ h => h) (Or.inl ⟨by rfl, ?_⟩) (by assumption) ?_
                  rotate_left
                  · intro w hSw; (try dsimp only at hSw); go_simp <;> with_reducible rfl
                  try simp only [Act.put, List.setIfInBounds_toArray, List.set_cons_zero, List.set_cons_succ]
                  refine wpAnyH_take (i := 17) (oi := ⟨some 58, _, _, _, _, _⟩) (v := ?_) rfl (by kernel_rfl) (by kernel_rfl) (by kernel_rfl) (fun _ _ _ h => h) (Or.inl ⟨by rfl, ?_⟩) (by assumption) ?_
                  rotate_left
                  · intro w hSw; (try dsimp only at hSw); go_simp <;> with_reducible rfl
                  try simp only [Act.put, List.setIfInBounds_toArray, List.set_cons_zero, List.set_cons_succ]
                  refine wpAnyH_take (i := 18) (oi := ⟨some 59, _, _, _, _, _⟩) (v := ?_) rfl (by kernel_rfl) (by kernel_rfl) (by kernel_rfl) (fun _ _ _ h => h) (Or.inl ⟨by rfl, ?_⟩) (by assumption) ?_
                  rotate_left
                  · intro w hSw; (try dsimp only at hSw); go_simp <;> with_reducible rfl
                  try simp only [Act.put, List.setIfInBounds_toArray, List.set_cons_zero, List.set_cons_succ]
                  refine wpAnyH_take (i := 19) (oi := ⟨some 60, _, _, _, _, _⟩) (v := ?_) rfl (by kernel_rfl) (by kernel_rfl) (by kernel_rfl) (fun _ _ _ h => h) (Or.inl ⟨by rfl, ?_⟩) (by assumption) ?_
                  rotate_left
                  · intro w hSw; (try dsimp only at hSw); go_simp <;> with_reducible rfl
                  try simp only [Act.put, List.setIfInBounds_toArray, List.set_cons_zero, List.set_cons_succ]
                  refine wpAnyH_take (i := 20) (oi := ⟨some 61, _, _, _, _, _⟩) (v := ?_) rfl (by kernel_rfl) (by kernel_rfl) (by kernel_rfl) (fun _ _ _ h => h) (Or.inl ⟨by rfl, ?_⟩) (by assumption) ?_
                  rotate_left
                  · intro w hSw; (try dsimp only at hSw); go_simp <;> with_reducible rfl
                  try simp only [Act.put, List.setIfInBounds_toArray, List.set_cons_zero, List.set_cons_succ]
                  refine wpAnyH_take (i := 21) (oi := ⟨some 62, _, _, _, _, _⟩) (v := ?_) rfl (by kernel_rfl) (by kernel_rfl) (by kernel_rfl) (fun _ _ _ h => h) (Or.inl ⟨by rfl, ?_⟩) (by assumption) ?_
                  rotate_left
                  · intro w hSw; (try dsimp only at hSw); go_simp <;> with_reducible rfl
                  try simp only [Act.put, List.setIfInBounds_toArray, List.set_cons_zero, List.set_cons_succ]
                  refine wpAnyH_take (i := 22) (oi := ⟨some 63, _, _, _, _, _⟩) (v := ?_) rfl (by kernel_rfl) (by kernel_rfl) (by kernel_rfl) (fun _ _ _ h => h) (Or.inl ⟨by rfl, ?_⟩) (by assumption) ?_
                  rotate_left
                  · intro w hSw; (try dsimp only at hSw); go_simp <;> with_reducible rfl
                  try simp only [Act.put, List.setIfInBounds_toArray, List.set_cons_zero, List.set_cons_succ]
                  refine wpAnyH_take (i := 23) (oi := ⟨some 64, _, _, _, _, _⟩) (v := ?_) rfl (by kernel_rfl) (by kernel_rfl) (by kernel_rfl) (fun _ _ _ h => h) (Or.inl ⟨by rfl, ?_⟩) (by assumption) ?_
                  rotate_left
                  · intro w hSw; (try dsimp only at hSw); go_simp <;> with_reducible rfl
                  try simp only [Act.put, List.setIfInBounds_toArray, List.set_cons_zero, List.set_cons_succ]
                  refine wpAnyH_take (i := 24) (oi := ⟨some 65, _, _, _, _, _⟩) (v := ?_) rfl (by kernel_rfl) (by kernel_rfl) (by kernel_rfl) (fun _ _ _ h => h) (Or.inl ⟨by rfl, ?_⟩) (by assumption) ?_
                  rotate_left
                  · intro w hSw; (try dsimp only at hSw); go_simp <;> with_reducible rfl
                  try simp only [Act.put, List.setIfInBounds_toArray, List.set_cons_zero, List.set_cons_succ]
                  refine wpAnyH_take (i := 25) (oi := ⟨some 66, _, _, _, _, _⟩) (v := ?_) rfl (by kernel_rfl) (by kernel_rfl) (by kernel_rfl) (fun _ _ _ h => h) (Or.inl ⟨by rfl, ?_⟩) (by assumption) ?_
                  rotate_left
                  · intro w hSw; (try dsimp only at hSw); go_simp <;> with_reducible rfl
                  try simp only [Act.put, List.setIfInBounds_toArray, List.set_cons_zero, List.set_cons_succ]
                  refine wpAnyH_take (i := 26) (oi := ⟨some 67, _, _, _, _, _⟩) (v := ?_) rfl (by kernel_rfl) (by kernel_rfl) (by kernel_rfl) (fun _ _ _ h => h) (Or.inl ⟨by rfl, ?_⟩) (by assumption) ?_
                  rotate_left
                  · intro w hSw; (try dsimp only at hSw); go_simp <;> with_reducible rfl
                  try simp only [Act.put, List.setIfInBounds_toArray, List.set_cons_zero, List.set_cons_succ]
                  refine wpAnyH_take (i := 27) (oi := ⟨some 68, _, _, _, _, _⟩) (v := ?_) rfl (by kernel_rfl) (by kernel_rfl) (by kernel_rfl) (fun _ _ _ h => h) (Or.inl ⟨by rfl, ?_⟩) (by assumption) ?_
                  rotate_left
                  · intro w hSw; (try dsimp only at hSw); go_simp <;> with_reducible rfl
                  try simp only [Act.put, List.setIfInBounds_toArray, List.set_cons_zero, List.set_cons_succ]
                  refine wpAnyH_take (i := 28) (oi := ⟨some 69, _, _, _, _, _⟩) (v := ?_) rfl (by kernel_rfl) (by kernel_rfl) (by kernel_rfl) (fun _ _ _ h => h) (Or.inl ⟨by rfl, ?_⟩) (by assumption) ?_
                  rotate_left
                  · intro w hSw; (try dsimp only at hSw); go_simp <;> with_reducible rfl
                  try simp only [Act.put, List.setIfInBounds_toArray, List.set_cons_zero, List.set_cons_succ]
                  refine wpAnyH_take (i := 29) (oi := ⟨some 70, _, _, _, _, _⟩) (v := ?_) rfl (by kernel_rfl) (by kernel_rfl) (by kernel_rfl) (fun _ _ _ h => h) (Or.inl ⟨by rfl, ?_⟩) (by assumption) ?_
                  rotate_left
                  · intro w hSw; (try dsimp only at hSw); go_simp <;> with_reducible rfl
                  try simp only [Act.put, List.setIfInBounds_toArray, List.set_cons_zero, List.set_cons_succ]
                  refine wpAnyH_take (i := 30) (oi := ⟨some 71, _, _, _, _, _⟩) (v := ?_) rfl (by kernel_rfl) (by kernel_rfl) (by kernel_rfl) (fun _ _ _ h => h) (Or.inl ⟨by rfl, ?_⟩) (by assumption) ?_
                  rotate_left
                  · intro w hSw; (try dsimp only at hSw); go_simp <;> with_reducible rfl
                  try simp only [Act.put, List.setIfInBounds_toArray, List.set_cons_zero, List.set_cons_succ]
                  refine wpAnyH_take (i := 31) (oi := ⟨some 72, _, _, _, _, _⟩) (v := ?_) rfl (by kernel_rfl) (by kernel_rfl) (by kernel_rfl) (fun _ _ _ h => h) (Or.inl ⟨by rfl, ?_⟩) (by assumption) ?_
                  rotate_left
                  · intro w hSw; (try dsimp only at hSw); go_simp <;> with_reducible rfl
                  try simp only [Act.put, List.setIfInBounds_toArray, List.set_cons_zero, List.set_cons_succ]
                  refine wpAnyH_take (i := 32) (oi := ⟨some 73, _, _, _, _, _⟩) (v := ?_) rfl (by kernel_rfl) (by kernel_rfl) (by kernel_rfl) (fun _ _ _ h => h) (Or.inl ⟨by rfl, ?_⟩) (by assumption) ?_
                  rotate_left
                  · intro w hSw; (try dsimp only at hSw); go_simp <;> with_reducible rfl
                  try simp only [Act.put, List.setIfInBounds_toArray, List.set_cons_zero, List.set_cons_succ]
                  refine wpAnyH_take (i := 33) (oi := ⟨some 74, _, _, _, _, _⟩) (v := ?_) rfl (by kernel_rfl) (by kernel_rfl) (by kernel_rfl) (fun _ _ _ h => h) (Or.inl ⟨by rfl, ?_⟩) (by assumption) ?_
                  rotate_left
                  · intro w hSw; (try dsimp only at hSw); go_simp <;> with_reducible rfl
                  try simp only [Act.put, List.setIfInBounds_toArray, List.set_cons_zero, List.set_cons_succ]
                  refine wpAnyH_take (i := 34) (oi := ⟨some 75, _, _, _, _, _⟩) (v := ?_) rfl (by kernel_rfl) (by kernel_rfl) (by kernel_rfl) (fun _ _ _ h => h) (Or.inl ⟨by rfl, ?_⟩) (by assumption) ?_
                  rotate_left
                  · intro w hSw; (try dsimp only at hSw); go_simp <;> with_reducible rfl
                  try simp only [Act.put, List.setIfInBounds_toArray, List.set_cons_zero, List.set_cons_succ]
                  refine wpAnyH_take (i := 35) (oi := ⟨some 76, _, _, _, _, _⟩) (v := ?_) rfl (by kernel_rfl) (by kernel_rfl) (by kernel_rfl) (fun _ _ _ h => h) (Or.inl ⟨by rfl, ?_⟩) (by assumption) ?_
                  rotate_left
                  · intro w hSw; (try dsimp only at hSw); go_simp <;> with_reducible rfl
                  try simp only [Act.put, List.setIfInBounds_toArray, List.set_cons_zero, List.set_cons_succ]
                  refine wpAnyH_done (by kernel_rfl) ?_ _
                  skip
                  go_wp2_with (fail)
                  go_ret
                  exact ⟨rfl, zB2⟩
                · rw [decide_eq_false m2, Bool.and_false] at hstp
                  replace hstp := hid hstp
                  go_upto_region 9 with (fail)
                  refine wp_region_held_drew (S := (fun W => W.cell? ⟨b, o + k * 35 + 32, none⟩ = some (.int .i64 pi) ∧ W.cell? ⟨b, o + k * 35 + 33, none⟩ = some (.int .i64 bi) ∧ W.cell? ⟨b, o + j * 35 + 32, none⟩ = some (.int .i64 pj) ∧ W.cell? ⟨b, o + j * 35 + 33, none⟩ = some (.int .i64 bj))) (by kernel_rfl) hst (fun hHeld => ?_)
                  refine wpAnyH_take (i := 0) (oi := ⟨some 41, _, _, _, _, _⟩) (v := ?_) rfl (by kernel_rfl) (by kernel_rfl) (by kernel_rfl) (fun _ _ _ h => h) (Or.inl ⟨by rfl, ?_⟩) (by assumption) ?_
                  rotate_left
                  · intro w hSw; (try dsimp only at hSw); go_simp <;> with_reducible rfl
                  try simp only [Act.put, List.setIfInBounds_toArray, List.set_cons_zero, List.set_cons_succ]
                  refine wpAnyH_take (i := 1) (oi := ⟨some 42, _, _, _, _, _⟩) (v := ?_) rfl (by kernel_rfl) (by kernel_rfl) (by kernel_rfl) (fun _ _ _ h => h) (Or.inl ⟨by rfl, ?_⟩) (by assumption) ?_
                  rotate_left
                  · intro w hSw; (try dsimp only at hSw); go_simp <;> with_reducible rfl
                  try simp only [Act.put, List.setIfInBounds_toArray, List.set_cons_zero, List.set_cons_succ]
                  refine wpAnyH_take (i := 2) (oi := ⟨some 43, _, _, _, _, _⟩) (v := ?_) rfl (by kernel_rfl) (by kernel_rfl) (by kernel_rfl) (fun _ _ _ h => h) (Or.inl ⟨by rfl, ?_⟩) (by assumption) ?_
                  rotate_left
                  · intro w hSw; (try dsimp only at hSw); go_simp <;> with_reducible rfl
                  try simp only [Act.put, List.setIfInBounds_toArray, List.set_cons_zero, List.set_cons_succ]
                  refine wpAnyH_take (i := 3) (oi := ⟨some 44, _, _, _, _, _⟩) (v := ?_) rfl (by kernel_rfl) (by kernel_rfl) (by kernel_rfl) (fun _ _ _ h => h) (Or.inl ⟨by rfl, ?_⟩) (by assumption) ?_
                  rotate_left
                  · intro w hSw; (try dsimp only at hSw); go_simp <;> with_reducible rfl
                  try simp only [Act.put, List.setIfInBounds_toArray, List.set_cons_zero, List.set_cons_succ]
                  refine wpAnyH_take (i := 4) (oi := ⟨some 45, _, _, _, _, _⟩) (v := ?_) rfl (by kernel_rfl) (by kernel_rfl) (by kernel_rfl) (fun _ _ _ h => h) (Or.inl ⟨by rfl, ?_⟩) (by assumption) ?_
                  rotate_left
                  · intro w hSw; (try dsimp only at hSw); go_simp <;> with_reducible rfl
                  try simp only [Act.put, List.setIfInBounds_toArray, List.set_cons_zero, List.set_cons_succ]
                  refine wpAnyH_take (i := 5) (oi := ⟨some 46, _, _, _, _, _⟩) (v := ?_) rfl (by kernel_rfl) (by kernel_rfl) (by kernel_rfl) (fun _ _ _ h => h) (Or.inl ⟨by rfl, ?_⟩) (by assumption) ?_
                  rotate_left
                  · intro w hSw; (try dsimp only at hSw); go_simp <;> with_reducible rfl
                  try simp only [Act.put, List.setIfInBounds_toArray, List.set_cons_zero, List.set_cons_succ]
                  refine wpAnyH_take (i := 6) (oi := ⟨some 47, _, _, _, _, _⟩) (v := ?_) rfl (by kernel_rfl) (by kernel_rfl) (by kernel_rfl) (fun _ _ _ h => h) (Or.inl ⟨by rfl, ?_⟩) (by assumption) ?_
                  rotate_left
                  · intro w hSw; (try dsimp only at hSw); go_simp <;> with_reducible rfl
                  try simp only [Act.put, List.setIfInBounds_toArray, List.set_cons_zero, List.set_cons_succ]
                  refine wpAnyH_take (i := 7) (oi := ⟨some 48, _, _, _, _, _⟩) (v := ?_) rfl (by kernel_rfl) (by kernel_rfl) (by kernel_rfl) (fun _ _ _ h => h) (Or.inl ⟨by rfl, ?_⟩) (by assumption) ?_
                  rotate_left
                  · intro w hSw; (try dsimp only at hSw); go_simp <;> with_reducible rfl
                  try simp only [Act.put, List.setIfInBounds_toArray, List.set_cons_zero, List.set_cons_succ]
                  refine wpAnyH_take (i := 8) (oi := ⟨some 49, _, _, _, _, _⟩) (v := ?_) rfl (by kernel_rfl) (by kernel_rfl) (by kernel_rfl) (fun _ _ _ h => h) (Or.inl ⟨by rfl, ?_⟩) (by assumption) ?_
                  rotate_left
                  · intro w hSw; (try dsimp only at hSw); go_simp <;> with_reducible rfl
                  try simp only [Act.put, List.setIfInBounds_toArray, List.set_cons_zero, List.set_cons_succ]
                  refine wpAnyH_take (i := 9) (oi := ⟨some 50, _, _, _, _, _⟩) (v := ?_) rfl (by kernel_rfl) (by kernel_rfl) (by kernel_rfl) (fun _ _ _ h => h) (Or.inl ⟨by rfl, ?_⟩) (by assumption) ?_
                  rotate_left
                  · intro w hSw; (try dsimp only at hSw); go_simp <;> with_reducible rfl
                  try simp only [Act.put, List.setIfInBounds_toArray, List.set_cons_zero, List.set_cons_succ]
                  refine wpAnyH_take (i := 10) (oi := ⟨some 51, _, _, _, _, _⟩) (v := ?_) rfl (by kernel_rfl) (by kernel_rfl) (by kernel_rfl) (fun _ _ _ h => h) (Or.inl ⟨by rfl, ?_⟩) (by assumption) ?_
                  rotate_left
                  · intro w hSw; (try dsimp only at hSw); go_simp <;> with_reducible rfl
                  try simp only [Act.put, List.setIfInBounds_toArray, List.set_cons_zero, List.set_cons_succ]
                  refine wpAnyH_take (i := 11) (oi := ⟨some 52, _, _, _, _, _⟩) (v := ?_) rfl (by kernel_rfl) (by kernel_rfl) (by kernel_rfl) (fun _ _ _ h => h) (Or.inl ⟨by rfl, ?_⟩) (by assumption) ?_
                  rotate_left
                  · intro w hSw; (try dsimp only at hSw); go_simp <;> with_reducible rfl
                  try simp only [Act.put, List.setIfInBounds_toArray, List.set_cons_zero, List.set_cons_succ]
                  refine wpAnyH_take (i := 12) (oi := ⟨some 53, _, _, _, _, _⟩) (v := ?_) rfl (by kernel_rfl) (by kernel_rfl) (by kernel_rfl) (fun _ _ _ h => h) (Or.inl ⟨by rfl, ?_⟩) (by assumption) ?_
                  rotate_left
                  · intro w hSw; (try dsimp only at hSw); go_simp <;> with_reducible rfl
                  try simp only [Act.put, List.setIfInBounds_toArray, List.set_cons_zero, List.set_cons_succ]
                  refine wpAnyH_take (i := 13) (oi := ⟨some 54, _, _, _, _, _⟩) (v := ?_) rfl (by kernel_rfl) (by kernel_rfl) (by kernel_rfl) (fun _ _ _ h => h) (Or.inl ⟨by rfl, ?_⟩) (by assumption) ?_
                  rotate_left
                  · intro w hSw; (try dsimp only at hSw); go_simp <;> with_reducible rfl
                  try simp only [Act.put, List.setIfInBounds_toArray, List.set_cons_zero, List.set_cons_succ]
                  refine wpAnyH_take (i := 14) (oi := ⟨some 55, _, _, _, _, _⟩) (v := ?_) rfl (by kernel_rfl) (by kernel_rfl) (by kernel_rfl) (fun _ _ _ h => h) (Or.inl ⟨by rfl, ?_⟩) (by assumption) ?_
                  rotate_left
                  · intro w hSw; (try dsimp only at hSw); go_simp <;> with_reducible rfl
                  try simp only [Act.put, List.setIfInBounds_toArray, List.set_cons_zero, List.set_cons_succ]
                  refine wpAnyH_take (i := 15) (oi := ⟨some 56, _, _, _, _, _⟩) (v := ?_) rfl (by kernel_rfl) (by kernel_rfl) (by kernel_rfl) (fun _ _ _ h => h) (Or.inl ⟨by rfl, ?_⟩) (by assumption) ?_
                  rotate_left
                  · intro w hSw; (try dsimp only at hSw); go_simp <;> with_reducible rfl
                  try simp only [Act.put, List.setIfInBounds_toArray, List.set_cons_zero, List.set_cons_succ]
                  refine wpAnyH_take (i := 16) (oi := ⟨some 57, _, _, _, _, _⟩) (v := ?_) rfl (by kernel_rfl) (by kernel_rfl) (by kernel_rfl) (fun _ _ _ h => h) (Or.inl ⟨by rfl, ?_⟩) (by assumption) ?_
                  rotate_left
                  · intro w hSw; (try dsimp only at hSw); go_simp <;> with_reducible rfl
                  try simp only [Act.put, List.setIfInBounds_toArray, List.set_cons_zero, List.set_cons_succ]
                  refine wpAnyH_take (i := 17) (oi := ⟨some 58, _, _, _, _, _⟩) (v := ?_) rfl (by kernel_rfl) (by kernel_rfl) (by kernel_rfl) (fun _ _ _ h => h) (Or.inl ⟨by rfl, ?_⟩) (by assumption) ?_
                  rotate_left
                  · intro w hSw; (try dsimp only at hSw); go_simp <;> with_reducible rfl
                  try simp only [Act.put, List.setIfInBounds_toArray, List.set_cons_zero, List.set_cons_succ]
                  refine wpAnyH_take (i := 18) (oi := ⟨some 59, _, _, _, _, _⟩) (v := ?_) rfl (by kernel_rfl) (by kernel_rfl) (by kernel_rfl) (fun _ _ _ h => h) (Or.inl ⟨by rfl, ?_⟩) (by assumption) ?_
                  rotate_left
                  · intro w hSw; (try dsimp only at hSw); go_simp <;> with_reducible rfl
                  try simp only [Act.put, List.setIfInBounds_toArray, List.set_cons_zero, List.set_cons_succ]
                  refine wpAnyH_take (i := 19) (oi := ⟨some 60, _, _, _, _, _⟩) (v := ?_) rfl (by kernel_rfl) (by kernel_rfl) (by kernel_rfl) (fun _ _ _ h => h) (Or.inl ⟨by rfl, ?_⟩) (by assumption) ?_
                  rotate_left
                  · intro w hSw; (try dsimp only at hSw); go_simp <;> with_reducible rfl
                  try simp only [Act.put, List.setIfInBounds_toArray, List.set_cons_zero, List.set_cons_succ]
                  refine wpAnyH_take (i := 20) (oi := ⟨some 61, _, _, _, _, _⟩) (v := ?_) rfl (by kernel_rfl) (by kernel_rfl) (by kernel_rfl) (fun _ _ _ h => h) (Or.inl ⟨by rfl, ?_⟩) (by assumption) ?_
                  rotate_left
                  · intro w hSw; (try dsimp only at hSw); go_simp <;> with_reducible rfl
                  try simp only [Act.put, List.setIfInBounds_toArray, List.set_cons_zero, List.set_cons_succ]
                  refine wpAnyH_take (i := 21) (oi := ⟨some 62, _, _, _, _, _⟩) (v := ?_) rfl (by kernel_rfl) (by kernel_rfl) (by kernel_rfl) (fun _ _ _ h => h) (Or.inl ⟨by rfl, ?_⟩) (by assumption) ?_
                  rotate_left
                  · intro w hSw; (try dsimp only at hSw); go_simp <;> with_reducible rfl
                  try simp only [Act.put, List.setIfInBounds_toArray, List.set_cons_zero, List.set_cons_succ]
                  refine wpAnyH_take (i := 22) (oi := ⟨some 63, _, _, _, _, _⟩) (v := ?_) rfl (by kernel_rfl) (by kernel_rfl) (by kernel_rfl) (fun _ _ _ h => h) (Or.inl ⟨by rfl, ?_⟩) (by assumption) ?_
                  rotate_left
                  · intro w hSw; (try dsimp only at hSw); go_simp <;> with_reducible rfl
                  try simp only [Act.put, List.setIfInBounds_toArray, List.set_cons_zero, List.set_cons_succ]
                  refine wpAnyH_take (i := 23) (oi := ⟨some 64, _, _, _, _, _⟩) (v := ?_) rfl (by kernel_rfl) (by kernel_rfl) (by kernel_rfl) (fun _ _ _ h => h) (Or.inl ⟨by rfl, ?_⟩) (by assumption) ?_
                  rotate_left
                  · intro w hSw; (try dsimp only at hSw); go_simp <;> with_reducible rfl
                  try simp only [Act.put, List.setIfInBounds_toArray, List.set_cons_zero, List.set_cons_succ]
                  refine wpAnyH_take (i := 24) (oi := ⟨some 65, _, _, _, _, _⟩) (v := ?_) rfl (by kernel_rfl) (by kernel_rfl) (by kernel_rfl) (fun _ _ _ h => h) (Or.inl ⟨by rfl, ?_⟩) (by assumption) ?_
                  rotate_left
                  · intro w hSw; (try dsimp only at hSw); go_simp <;> with_reducible rfl
                  try simp only [Act.put, List.setIfInBounds_toArray, List.set_cons_zero, List.set_cons_succ]
                  refine wpAnyH_take (i := 25) (oi := ⟨some 66, _, _, _, _, _⟩) (v := ?_) rfl (by kernel_rfl) (by kernel_rfl) (by kernel_rfl) (fun _ _ _ h => h) (Or.inl ⟨by rfl, ?_⟩) (by assumption) ?_
                  rotate_left
                  · intro w hSw; (try dsimp only at hSw); go_simp <;> with_reducible rfl
                  try simp only [Act.put, List.setIfInBounds_toArray, List.set_cons_zero, List.set_cons_succ]
                  refine wpAnyH_take (i := 26) (oi := ⟨some 67, _, _, _, _, _⟩) (v := ?_) rfl (by kernel_rfl) (by kernel_rfl) (by kernel_rfl) (fun _ _ _ h => h) (Or.inl ⟨by rfl, ?_⟩) (by assumption) ?_
                  rotate_left
                  · intro w hSw; (try dsimp only at hSw); go_simp <;> with_reducible rfl
                  try simp only [Act.put, List.setIfInBounds_toArray, List.set_cons_zero, List.set_cons_succ]
                  refine wpAnyH_take (i := 27) (oi := ⟨some 68, _, _, _, _, _⟩) (v := ?_) rfl (by kernel_rfl) (by kernel_rfl) (by kernel_rfl) (fun _ _ _ h => h) (Or.inl ⟨by rfl, ?_⟩) (by assumption) ?_
                  rotate_left
                  · intro w hSw; (try dsimp only at hSw); go_simp <;> with_reducible rfl
                  try simp only [Act.put, List.setIfInBounds_toArray, List.set_cons_zero, List.set_cons_succ]
                  refine wpAnyH_take (i := 28) (oi := ⟨some 69, _, _, _, _, _⟩) (v := ?_) rfl (by kernel_rfl) (by kernel_rfl) (by kernel_rfl) (fun _ _ _ h => h) (Or.inl ⟨by rfl, ?_⟩) (by assumption) ?_
                  rotate_left
                  · intro w hSw; (try dsimp only at hSw); go_simp <;> with_reducible rfl
                  try simp only [Act.put, List.setIfInBounds_toArray, List.set_cons_zero, List.set_cons_succ]
                  refine wpAnyH_take (i := 29) (oi := ⟨some 70, _, _, _, _, _⟩) (v := ?_) rfl (by kernel_rfl) (by kernel_rfl) (by kernel_rfl) (fun _ _ _ h => h) (Or.inl ⟨by rfl, ?_⟩) (by assumption) ?_
                  rotate_left
                  · intro w hSw; (try dsimp only at hSw); go_simp <;> with_reducible rfl
                  try simp only [Act.put, List.setIfInBounds_toArray, List.set_cons_zero, List.set_cons_succ]
                  refine wpAnyH_take (i := 30) (oi := ⟨some 71, _, _, _, _, _⟩) (v := ?_) rfl (by kernel_rfl) (by kernel_rfl) (by kernel_rfl) (fun _ _ _ h => h) (Or.inl ⟨by rfl, ?_⟩) (by assumption) ?_
                  rotate_left
                  · intro w hSw; (try dsimp only at hSw); go_simp <;> with_reducible rfl
                  try simp only [Act.put, List.setIfInBounds_toArray, List.set_cons_zero, List.set_cons_succ]
                  refine wpAnyH_take (i := 31) (oi := ⟨some 72, _, _, _, _, _⟩) (v := ?_) rfl (by kernel_rfl) (by kernel_rfl) (by kernel_rfl) (fun _ _ _ h => h) (Or.inl ⟨by rfl, ?_⟩) (by assumption) ?_
                  rotate_left
                  · intro w hSw; (try dsimp only at hSw); go_simp <;> with_reducible rfl
                  try simp only [Act.put, List.setIfInBounds_toArray, List.set_cons_zero, List.set_cons_succ]
                  refine wpAnyH_take (i := 32) (oi := ⟨some 73, _, _, _, _, _⟩) (v := ?_) rfl (by kernel_rfl) (by kernel_rfl) (by kernel_rfl) (fun _ _ _ h => h) (Or.inl ⟨by rfl, ?_⟩) (by assumption) ?_
                  rotate_left
                  · intro w hSw; (try dsimp only at hSw); go_simp <;> with_reducible rfl
                  try simp only [Act.put, List.setIfInBounds_toArray, List.set_cons_zero, List.set_cons_succ]
                  refine wpAnyH_take (i := 33) (oi := ⟨some 74, _, _, _, _, _⟩) (v := ?_) rfl (by kernel_rfl) (by kernel_rfl) (by kernel_rfl) (fun _ _ _ h => h) (Or.inl ⟨by rfl, ?_⟩) (by assumption) ?_
                  rotate_left
                  · intro w hSw; (try dsimp only at hSw); go_simp <;> with_reducible rfl
                  try simp only [Act.put, List.setIfInBounds_toArray, List.set_cons_zero, List.set_cons_succ]
                  refine wpAnyH_take (i := 34) (oi := ⟨some 75, _, _, _, _, _⟩) (v := ?_) rfl (by kernel_rfl) (by kernel_rfl) (by kernel_rfl) (fun _ _ _ h => h) (Or.inl ⟨by rfl, ?_⟩) (by assumption) ?_
                  rotate_left
                  · intro w hSw; (try dsimp only at hSw); go_simp <;> with_reducible rfl
                  try simp only [Act.put, List.setIfInBounds_toArray, List.set_cons_zero, List.set_cons_succ]
                  refine wpAnyH_take (i := 35) (oi := ⟨some 76, _, _, _, _, _⟩) (v := ?_) rfl (by kernel_rfl) (by kernel_rfl) (by kernel_rfl) (fun _ _ _ h => h) (Or.inl ⟨by rfl, ?_⟩) (by assumption) ?_
                  rotate_left
                  · intro w hSw; (try dsimp only at hSw); go_simp <;> with_reducible rfl
                  try simp only [Act.put, List.setIfInBounds_toArray, List.set_cons_zero, List.set_cons_succ]
                  refine wpAnyH_done (by kernel_rfl) ?_ _
                  skip
                  go_wp2_with (fail)
                  refine ⟨?_, ?_⟩
                  · first | exact ⟨j + 1, by omega, by go_num, hstp.out, zB2⟩ | ((repeat apply Exists.intro); refine ⟨?_, rfl⟩; exact ⟨j + 1, by omega, by go_num, hstp.out, zB2⟩)
                  · simp [RowKit.intOf]; omega
              · rw [decide_eq_false m1, Bool.false_and] at hstp
                replace hstp := hid hstp
                go_upto_region 9 with (fail)
                refine wp_region_held_drew (S := (fun W => W.cell? ⟨b, o + k * 35 + 32, none⟩ = some (.int .i64 pi) ∧ W.cell? ⟨b, o + k * 35 + 33, none⟩ = some (.int .i64 bi) ∧ W.cell? ⟨b, o + j * 35 + 32, none⟩ = some (.int .i64 pj) ∧ W.cell? ⟨b, o + j * 35 + 33, none⟩ = some (.int .i64 bj))) (by kernel_rfl) hst (fun hHeld => ?_)
                refine wpAnyH_take (i := 0) (oi := ⟨some 41, _, _, _, _, _⟩) (v := ?_) rfl (by kernel_rfl) (by kernel_rfl) (by kernel_rfl) (fun _ _ _ h => h) (Or.inl ⟨by rfl, ?_⟩) (by assumption) ?_
                rotate_left
                · intro w hSw; (try dsimp only at hSw); go_simp <;> with_reducible rfl
                try simp only [Act.put, List.setIfInBounds_toArray, List.set_cons_zero, List.set_cons_succ]
                refine wpAnyH_take (i := 1) (oi := ⟨some 42, _, _, _, _, _⟩) (v := ?_) rfl (by kernel_rfl) (by kernel_rfl) (by kernel_rfl) (fun _ _ _ h => h) (Or.inl ⟨by rfl, ?_⟩) (by assumption) ?_
                rotate_left
                · intro w hSw; (try dsimp only at hSw); go_simp <;> with_reducible rfl
                try simp only [Act.put, List.setIfInBounds_toArray, List.set_cons_zero, List.set_cons_succ]
                refine wpAnyH_take (i := 2) (oi := ⟨some 43, _, _, _, _, _⟩) (v := ?_) rfl (by kernel_rfl) (by kernel_rfl) (by kernel_rfl) (fun _ _ _ h => h) (Or.inl ⟨by rfl, ?_⟩) (by assumption) ?_
                rotate_left
                · intro w hSw; (try dsimp only at hSw); go_simp <;> with_reducible rfl
                try simp only [Act.put, List.setIfInBounds_toArray, List.set_cons_zero, List.set_cons_succ]
                refine wpAnyH_take (i := 3) (oi := ⟨some 44, _, _, _, _, _⟩) (v := ?_) rfl (by kernel_rfl) (by kernel_rfl) (by kernel_rfl) (fun _ _ _ h => h) (Or.inl ⟨by rfl, ?_⟩) (by assumption) ?_
                rotate_left
                · intro w hSw; (try dsimp only at hSw); go_simp <;> with_reducible rfl
                try simp only [Act.put, List.setIfInBounds_toArray, List.set_cons_zero, List.set_cons_succ]
                refine wpAnyH_take (i := 4) (oi := ⟨some 45, _, _, _, _, _⟩) (v := ?_) rfl (by kernel_rfl) (by kernel_rfl) (by kernel_rfl) (fun _ _ _ h => h) (Or.inl ⟨by rfl, ?_⟩) (by assumption) ?_
                rotate_left
                · intro w hSw; (try dsimp only at hSw); go_simp <;> with_reducible rfl
                try simp only [Act.put, List.setIfInBounds_toArray, List.set_cons_zero, List.set_cons_succ]
                refine wpAnyH_take (i := 5) (oi := ⟨some 46, _, _, _, _, _⟩) (v := ?_) rfl (by kernel_rfl) (by kernel_rfl) (by kernel_rfl) (fun _ _ _ h => h) (Or.inl ⟨by rfl, ?_⟩) (by assumption) ?_
                rotate_left
                · intro w hSw; (try dsimp only at hSw); go_simp <;> with_reducible rfl
                try simp only [Act.put, List.setIfInBounds_toArray, List.set_cons_zero, List.set_cons_succ]
                refine wpAnyH_take (i := 6) (oi := ⟨some 47, _, _, _, _, _⟩) (v := ?_) rfl (by kernel_rfl) (by kernel_rfl) (by kernel_rfl) (fun _ _ _ h => h) (Or.inl ⟨by rfl, ?_⟩) (by assumption) ?_
                rotate_left
                · intro w hSw; (try dsimp only at hSw); go_simp <;> with_reducible rfl
                try simp only [Act.put, List.setIfInBounds_toArray, List.set_cons_zero, List.set_cons_succ]
                refine wpAnyH_take (i := 7) (oi := ⟨some 48, _, _, _, _, _⟩) (v := ?_) rfl (by kernel_rfl) (by kernel_rfl) (by kernel_rfl) (fun _ _ _ h => h) (Or.inl ⟨by rfl, ?_⟩) (by assumption) ?_
                rotate_left
                · intro w hSw; (try dsimp only at hSw); go_simp <;> with_reducible rfl
                try simp only [Act.put, List.setIfInBounds_toArray, List.set_cons_zero, List.set_cons_succ]
                refine wpAnyH_take (i := 8) (oi := ⟨some 49, _, _, _, _, _⟩) (v := ?_) rfl (by kernel_rfl) (by kernel_rfl) (by kernel_rfl) (fun _ _ _ h => h) (Or.inl ⟨by rfl, ?_⟩) (by assumption) ?_
                rotate_left
                · intro w hSw; (try dsimp only at hSw); go_simp <;> with_reducible rfl
                try simp only [Act.put, List.setIfInBounds_toArray, List.set_cons_zero, List.set_cons_succ]
                refine wpAnyH_take (i := 9) (oi := ⟨some 50, _, _, _, _, _⟩) (v := ?_) rfl (by kernel_rfl) (by kernel_rfl) (by kernel_rfl) (fun _ _ _ h => h) (Or.inl ⟨by rfl, ?_⟩) (by assumption) ?_
                rotate_left
                · intro w hSw; (try dsimp only at hSw); go_simp <;> with_reducible rfl
                try simp only [Act.put, List.setIfInBounds_toArray, List.set_cons_zero, List.set_cons_succ]
                refine wpAnyH_take (i := 10) (oi := ⟨some 51, _, _, _, _, _⟩) (v := ?_) rfl (by kernel_rfl) (by kernel_rfl) (by kernel_rfl) (fun _ _ _ h => h) (Or.inl ⟨by rfl, ?_⟩) (by assumption) ?_
                rotate_left
                · intro w hSw; (try dsimp only at hSw); go_simp <;> with_reducible rfl
                try simp only [Act.put, List.setIfInBounds_toArray, List.set_cons_zero, List.set_cons_succ]
                refine wpAnyH_take (i := 11) (oi := ⟨some 52, _, _, _, _, _⟩) (v := ?_) rfl (by kernel_rfl) (by kernel_rfl) (by kernel_rfl) (fun _ _ _ h => h) (Or.inl ⟨by rfl, ?_⟩) (by assumption) ?_
                rotate_left
                · intro w hSw; (try dsimp only at hSw); go_simp <;> with_reducible rfl
                try simp only [Act.put, List.setIfInBounds_toArray, List.set_cons_zero, List.set_cons_succ]
                refine wpAnyH_take (i := 12) (oi := ⟨some 53, _, _, _, _, _⟩) (v := ?_) rfl (by kernel_rfl) (by kernel_rfl) (by kernel_rfl) (fun _ _ _ h => h) (Or.inl ⟨by rfl, ?_⟩) (by assumption) ?_
                rotate_left
                · intro w hSw; (try dsimp only at hSw); go_simp <;> with_reducible rfl
                try simp only [Act.put, List.setIfInBounds_toArray, List.set_cons_zero, List.set_cons_succ]
                refine wpAnyH_take (i := 13) (oi := ⟨some 54, _, _, _, _, _⟩) (v := ?_) rfl (by kernel_rfl) (by kernel_rfl) (by kernel_rfl) (fun _ _ _ h => h) (Or.inl ⟨by rfl, ?_⟩) (by assumption) ?_
                rotate_left
                · intro w hSw; (try dsimp only at hSw); go_simp <;> with_reducible rfl
                try simp only [Act.put, List.setIfInBounds_toArray, List.set_cons_zero, List.set_cons_succ]
                refine wpAnyH_take (i := 14) (oi := ⟨some 55, _, _, _, _, _⟩) (v := ?_) rfl (by kernel_rfl) (by kernel_rfl) (by kernel_rfl) (fun _ _ _ h => h) (Or.inl ⟨by rfl, ?_⟩) (by assumption) ?_
                rotate_left
                · intro w hSw; (try dsimp only at hSw); go_simp <;> with_reducible rfl
                try simp only [Act.put, List.setIfInBounds_toArray, List.set_cons_zero, List.set_cons_succ]
                refine wpAnyH_take (i := 15) (oi := ⟨some 56, _, _, _, _, _⟩) (v := ?_) rfl (by kernel_rfl) (by kernel_rfl) (by kernel_rfl) (fun _ _ _ h => h) (Or.inl ⟨by rfl, ?_⟩) (by assumption) ?_
                rotate_left
                · intro w hSw; (try dsimp only at hSw); go_simp <;> with_reducible rfl
                try simp only [Act.put, List.setIfInBounds_toArray, List.set_cons_zero, List.set_cons_succ]
                refine wpAnyH_take (i := 16) (oi := ⟨some 57, _, _, _, _, _⟩) (v := ?_) rfl (by kernel_rfl) (by kernel_rfl) (by kernel_rfl) (fun _ _ _ h => h) (Or.inl ⟨by rfl, ?_⟩) (by assumption) ?_
                rotate_left
                · intro w hSw; (try dsimp only at hSw); go_simp <;> with_reducible rfl
                try simp only [Act.put, List.setIfInBounds_toArray, List.set_cons_zero, List.set_cons_succ]
                refine wpAnyH_take (i := 17) (oi := ⟨some 58, _, _, _, _, _⟩) (v := ?_) rfl (by kernel_rfl) (by kernel_rfl) (by kernel_rfl) (fun _ _ _ h => h) (Or.inl ⟨by rfl, ?_⟩) (by assumption) ?_
                rotate_left
                · intro w hSw; (try dsimp only at hSw); go_simp <;> with_reducible rfl
                try simp only [Act.put, List.setIfInBounds_toArray, List.set_cons_zero, List.set_cons_succ]
                refine wpAnyH_take (i := 18) (oi := ⟨some 59, _, _, _, _, _⟩) rfl (by kernel_rfl) (by kernel_rfl) (by kernel_rfl) (fun _ _ _ h => h) (Or.inr ⟨by rfl, rfl⟩) (by assumption) ?_
                try simp only [Act.put, List.setIfInBounds_toArray, List.set_cons_zero, List.set_cons_succ]
                refine wpAnyH_take (i := 19) (oi := ⟨some 60, _, _, _, _, _⟩) rfl (by kernel_rfl) (by kernel_rfl) (by kernel_rfl) (fun _ _ _ h => h) (Or.inr ⟨by rfl, rfl⟩) (by assumption) ?_
                try simp only [Act.put, List.setIfInBounds_toArray, List.set_cons_zero, List.set_cons_succ]
                refine wpAnyH_take (i := 20) (oi := ⟨some 61, _, _, _, _, _⟩) rfl (by kernel_rfl) (by kernel_rfl) (by kernel_rfl) (fun _ _ _ h => h) (Or.inr ⟨by rfl, rfl⟩) (by assumption) ?_
                try simp only [Act.put, List.setIfInBounds_toArray, List.set_cons_zero, List.set_cons_succ]
                refine wpAnyH_take (i := 21) (oi := ⟨some 62, _, _, _, _, _⟩) rfl (by kernel_rfl) (by kernel_rfl) (by kernel_rfl) (fun _ _ _ h => h) (Or.inr ⟨by rfl, rfl⟩) (by assumption) ?_
                try simp only [Act.put, List.setIfInBounds_toArray, List.set_cons_zero, List.set_cons_succ]
                refine wpAnyH_take (i := 22) (oi := ⟨some 63, _, _, _, _, _⟩) rfl (by kernel_rfl) (by kernel_rfl) (by kernel_rfl) (fun _ _ _ h => h) (Or.inr ⟨by rfl, rfl⟩) (by assumption) ?_
                try simp only [Act.put, List.setIfInBounds_toArray, List.set_cons_zero, List.set_cons_succ]
                refine wpAnyH_take (i := 23) (oi := ⟨some 64, _, _, _, _, _⟩) rfl (by kernel_rfl) (by kernel_rfl) (by kernel_rfl) (fun _ _ _ h => h) (Or.inr ⟨by rfl, rfl⟩) (by assumption) ?_
                try simp only [Act.put, List.setIfInBounds_toArray, List.set_cons_zero, List.set_cons_succ]
                refine wpAnyH_take (i := 24) (oi := ⟨some 65, _, _, _, _, _⟩) rfl (by kernel_rfl) (by kernel_rfl) (by kernel_rfl) (fun _ _ _ h => h) (Or.inr ⟨by rfl, rfl⟩) (by assumption) ?_
                try simp only [Act.put, List.setIfInBounds_toArray, List.set_cons_zero, List.set_cons_succ]
                refine wpAnyH_take (i := 25) (oi := ⟨some 66, _, _, _, _, _⟩) rfl (by kernel_rfl) (by kernel_rfl) (by kernel_rfl) (fun _ _ _ h => h) (Or.inr ⟨by rfl, rfl⟩) (by assumption) ?_
                try simp only [Act.put, List.setIfInBounds_toArray, List.set_cons_zero, List.set_cons_succ]
                refine wpAnyH_take (i := 26) (oi := ⟨some 67, _, _, _, _, _⟩) rfl (by kernel_rfl) (by kernel_rfl) (by kernel_rfl) (fun _ _ _ h => h) (Or.inr ⟨by rfl, rfl⟩) (by assumption) ?_
                try simp only [Act.put, List.setIfInBounds_toArray, List.set_cons_zero, List.set_cons_succ]
                refine wpAnyH_take (i := 27) (oi := ⟨some 68, _, _, _, _, _⟩) rfl (by kernel_rfl) (by kernel_rfl) (by kernel_rfl) (fun _ _ _ h => h) (Or.inr ⟨by rfl, rfl⟩) (by assumption) ?_
                try simp only [Act.put, List.setIfInBounds_toArray, List.set_cons_zero, List.set_cons_succ]
                refine wpAnyH_take (i := 28) (oi := ⟨some 69, _, _, _, _, _⟩) rfl (by kernel_rfl) (by kernel_rfl) (by kernel_rfl) (fun _ _ _ h => h) (Or.inr ⟨by rfl, rfl⟩) (by assumption) ?_
                try simp only [Act.put, List.setIfInBounds_toArray, List.set_cons_zero, List.set_cons_succ]
                refine wpAnyH_take (i := 29) (oi := ⟨some 70, _, _, _, _, _⟩) rfl (by kernel_rfl) (by kernel_rfl) (by kernel_rfl) (fun _ _ _ h => h) (Or.inr ⟨by rfl, rfl⟩) (by assumption) ?_
                try simp only [Act.put, List.setIfInBounds_toArray, List.set_cons_zero, List.set_cons_succ]
                refine wpAnyH_take (i := 30) (oi := ⟨some 71, _, _, _, _, _⟩) rfl (by kernel_rfl) (by kernel_rfl) (by kernel_rfl) (fun _ _ _ h => h) (Or.inr ⟨by rfl, rfl⟩) (by assumption) ?_
                try simp only [Act.put, List.setIfInBounds_toArray, List.set_cons_zero, List.set_cons_succ]
                refine wpAnyH_take (i := 31) (oi := ⟨some 72, _, _, _, _, _⟩) rfl (by kernel_rfl) (by kernel_rfl) (by kernel_rfl) (fun _ _ _ h => h) (Or.inr ⟨by rfl, rfl⟩) (by assumption) ?_
                try simp only [Act.put, List.setIfInBounds_toArray, List.set_cons_zero, List.set_cons_succ]
                refine wpAnyH_take (i := 32) (oi := ⟨some 73, _, _, _, _, _⟩) rfl (by kernel_rfl) (by kernel_rfl) (by kernel_rfl) (fun _ _ _ h => h) (Or.inr ⟨by rfl, rfl⟩) (by assumption) ?_
                try simp only [Act.put, List.setIfInBounds_toArray, List.set_cons_zero, List.set_cons_succ]
                refine wpAnyH_take (i := 33) (oi := ⟨some 74, _, _, _, _, _⟩) rfl (by kernel_rfl) (by kernel_rfl) (by kernel_rfl) (fun _ _ _ h => h) (Or.inr ⟨by rfl, rfl⟩) (by assumption) ?_
                try simp only [Act.put, List.setIfInBounds_toArray, List.set_cons_zero, List.set_cons_succ]
                refine wpAnyH_take (i := 34) (oi := ⟨some 75, _, _, _, _, _⟩) rfl (by kernel_rfl) (by kernel_rfl) (by kernel_rfl) (fun _ _ _ h => h) (Or.inr ⟨by rfl, rfl⟩) (by assumption) ?_
                try simp only [Act.put, List.setIfInBounds_toArray, List.set_cons_zero, List.set_cons_succ]
                refine wpAnyH_take (i := 35) (oi := ⟨some 76, _, _, _, _, _⟩) (v := ?_) rfl (by kernel_rfl) (by kernel_rfl) (by kernel_rfl) (fun _ _ _ h => h) (Or.inl ⟨by rfl, ?_⟩) (by assumption) ?_
                rotate_left
                · intro w hSw; (try dsimp only at hSw); go_simp <;> with_reducible rfl
                try simp only [Act.put, List.setIfInBounds_toArray, List.set_cons_zero, List.set_cons_succ]
                refine wpAnyH_done (by kernel_rfl) ?_ _
                skip
                go_wp2_with (fail)
                refine ⟨?_, ?_⟩
                · first | exact ⟨j + 1, by omega, by go_num, hstp.out, zB2⟩ | ((repeat apply Exists.intro); refine ⟨?_, rfl⟩; exact ⟨j + 1, by omega, by go_num, hstp.out, zB2⟩)
                · simp [RowKit.intOf]; omega
            · obtain rfl : j = k := by omega
              have hst2 := hid (hok.out hap)
              clear hap
              go_wp2_with (fail)
              refine ⟨?_, ?_⟩
              · first | exact ⟨j + 1, by omega, by go_num, hst2.out, zB⟩ | ((repeat apply Exists.intro); refine ⟨?_, rfl⟩; exact ⟨j + 1, by omega, by go_num, hst2.out, zB⟩)
              · simp [RowKit.intOf]; omega
        · obtain ⟨j, hj⟩ : ∃ j, k - 1 = j := ⟨_, rfl⟩
          have hk0I : (0 : Int) < (k : Int) := by omega
          have hk0N : 0 < k := by omega
          have hjI : (j : Int) < (L : Int) := by omega
          have hkw : IntKind.i64.wrap ((k : Int) - 1) = (j : Int) := by rw [IntKind.wrap_i64]; omega
          obtain ⟨e1, he1⟩ : ∃ e, l[j]? = some e := ⟨_, List.getElem?_eq_getElem (by rw [hL.out]; omega)⟩
          have hk1 := hk e1 (List.mem_of_getElem? he1)
          have hkey1 : keyAt l j = e1.key := keyAt_of he1
          have hik1 : (Try.prog.info? 46).map (·.size) = some (keyV e1.key).length := by rw [keyV_len, hk1]; kernel_rfl
          have hy1 := hid (fun W (h : Below wr.drew.heap.size wr.drew W) => range_key ((Kept.of_below h 0).range (hcB.out _ qB2 j e1 he1)))
          obtain ⟨ls, hls⟩ : ∃ x, lessS e1.key e2.key = x := ⟨_, rfl⟩
          have cL := hid (fun W (_ : Below wr.drew.heap.size wr.drew W) => by have h := rLess_any e1.key e2.key W hk1 hk2; rw [hls] at h; exact h)
          have hok1 : okAt l k = ls := by unfold okAt; rw [hone, show (k == 0) = false by simpa using hk0, hj, hkey1, hkey2, hls]; rfl
          rw [hok1] at hstep
          clear hone hkey1 hkey2 hok1 hls he1
          replace ho := hid ho
          replace hk0 := hid hk0
          replace hj := hid hj
          cases ls with
          | false =>
            have hrf : rb = false := by
              rw [← hrb2]
              exact rGoodTo_stop hstep (by omega)
            clear hstep hrb2
            subst hrf
            go_upto_region 4 with (fail)
            refine wp_region_held_drew (S := (fun W => Below wr.drew.heap.size wr.drew W)) (by kernel_rfl) hst (fun hHeld => ?_)
            generalize wr.drew = W5 at *
            refine wpAnyH_take (i := 0) (oi := ⟨some 11, _, _, _, _, _⟩) (v := ?_) rfl (by kernel_rfl) (by kernel_rfl) (by kernel_rfl) (fun _ _ _ h => h) (Or.inl ⟨by rfl, ?_⟩) (by assumption) ?_
            rotate_left
            · intro w hSw; (try dsimp only at hSw); go_simp <;> with_reducible rfl
            try simp only [Act.put, List.setIfInBounds_toArray, List.set_cons_zero, List.set_cons_succ]
            refine wpAnyH_take (i := 1) (oi := ⟨some 12, _, _, _, _, _⟩) (v := ?_) rfl (by kernel_rfl) (by kernel_rfl) (by kernel_rfl) (fun _ _ _ h => h) (Or.inl ⟨by rfl, ?_⟩) (by assumption) ?_
            rotate_left
            · intro w hSw; (try dsimp only at hSw); go_simp <;> with_reducible rfl
            try simp only [Act.put, List.setIfInBounds_toArray, List.set_cons_zero, List.set_cons_succ]
            refine wpAnyH_take (i := 2) (oi := ⟨some 13, _, _, _, _, _⟩) (v := ?_) rfl (by kernel_rfl) (by kernel_rfl) (by kernel_rfl) (fun _ _ _ h => h) (Or.inl ⟨by rfl, ?_⟩) (by assumption) ?_
            rotate_left
            · intro w hSw; (try dsimp only at hSw); go_simp <;> with_reducible rfl
            try simp only [Act.put, List.setIfInBounds_toArray, List.set_cons_zero, List.set_cons_succ]
            refine wpAnyH_take (i := 3) (oi := ⟨some 14, _, _, _, _, _⟩) rfl (by kernel_rfl) (by kernel_rfl) (by kernel_rfl) (fun _ _ _ h => h) (yieldsIf_load_mid (by rfl) 48 _ rfl b (o + k * 35) rfl (encE e2) _ (fun w h => hx2.out w h) Try.underlying48 rfl hi2) (by assumption) ?_
            try simp only [Act.put, List.setIfInBounds_toArray, List.set_cons_zero, List.set_cons_succ]
            refine wpAnyH_ready (rs := [4]) (by kernel_rfl) (by simp) ?_
            refine AllReadyH.cons rfl (fun K hK => ?_) AllReadyH.nil
            go_simp
            refine (cO.out _ hHeld).mono ?_
            rintro r w7 ⟨rfl, b7⟩
            have b8 := hHeld.trans (b7.mono hHeld.size)
            clear hHeld b7
            refine hK.out _ _ (b8) (fun hHeld => ?_)
            clear hK K
            try simp only [Act.put, List.setIfInBounds_toArray, List.set_cons_zero, List.set_cons_succ]
            refine wpAnyH_take (i := 5) (oi := ⟨some 16, _, _, _, _, _⟩) (v := ?_) rfl (by kernel_rfl) (by kernel_rfl) (by kernel_rfl) (fun _ _ _ h => h) (Or.inl ⟨by rfl, ?_⟩) (by assumption) ?_
            rotate_left
            · intro w hSw; (try dsimp only at hSw); go_simp <;> with_reducible rfl
            try simp only [Act.put, List.setIfInBounds_toArray, List.set_cons_zero, List.set_cons_succ]
            refine wpAnyH_take (i := 6) (oi := ⟨some 17, _, _, _, _, _⟩) (v := ?_) rfl (by kernel_rfl) (by kernel_rfl) (by kernel_rfl) (fun _ _ _ h => h) (Or.inl ⟨by rfl, ?_⟩) (by assumption) ?_
            rotate_left
            · intro w hSw; (try dsimp only at hSw); go_simp <;> with_reducible rfl
            try simp only [Act.put, List.setIfInBounds_toArray, List.set_cons_zero, List.set_cons_succ]
            refine wpAnyH_take (i := 7) (oi := ⟨some 18, _, _, _, _, _⟩) (v := ?_) rfl (by kernel_rfl) (by kernel_rfl) (by kernel_rfl) (fun _ _ _ h => h) (Or.inl ⟨by rfl, ?_⟩) (by assumption) ?_
            rotate_left
            · intro w hSw; (try dsimp only at hSw); go_simp <;> with_reducible rfl
            try simp only [Act.put, List.setIfInBounds_toArray, List.set_cons_zero, List.set_cons_succ]
            refine wpAnyH_take (i := 8) (oi := ⟨some 19, _, _, _, _, _⟩) (v := ?_) rfl (by kernel_rfl) (by kernel_rfl) (by kernel_rfl) (fun _ _ _ h => h) (Or.inl ⟨by rfl, ?_⟩) (by assumption) ?_
            rotate_left
            · intro w hSw; (try dsimp only at hSw); go_simp <;> with_reducible rfl
            try simp only [Act.put, List.setIfInBounds_toArray, List.set_cons_zero, List.set_cons_succ]
            refine wpAnyH_take (i := 9) (oi := ⟨some 20, _, _, _, _, _⟩) (v := ?_) rfl (by kernel_rfl) (by kernel_rfl) (by kernel_rfl) (fun _ _ _ h => h) (Or.inl ⟨by rfl, ?_⟩) (by assumption) ?_
            rotate_left
            · intro w hSw; (try dsimp only at hSw); go_simp <;> with_reducible rfl
            try simp only [Act.put, List.setIfInBounds_toArray, List.set_cons_zero, List.set_cons_succ]
            refine wpAnyH_take (i := 10) (oi := ⟨some 21, _, _, _, _, _⟩) (v := ?_) rfl (by kernel_rfl) (by kernel_rfl) (by kernel_rfl) (fun _ _ _ h => h) (Or.inl ⟨by rfl, ?_⟩) (by assumption) ?_
            rotate_left
            · intro w hSw; (try dsimp only at hSw); go_simp <;> with_reducible rfl
            try simp only [Act.put, List.setIfInBounds_toArray, List.set_cons_zero, List.set_cons_succ]
            refine wpAnyH_take (i := 11) (oi := ⟨some 22, _, _, _, _, _⟩) (v := ?_) rfl (by kernel_rfl) (by kernel_rfl) (by kernel_rfl) (fun _ _ _ h => h) (Or.inl ⟨by rfl, ?_⟩) (by assumption) ?_
            rotate_left
            · intro w hSw; (try dsimp only at hSw); go_simp <;> with_reducible rfl
            try simp only [Act.put, List.setIfInBounds_toArray, List.set_cons_zero, List.set_cons_succ]
            refine wpAnyH_take (i := 12) (oi := ⟨some 23, _, _, _, _, _⟩) (v := ?_) rfl (by kernel_rfl) (by kernel_rfl) (by kernel_rfl) (fun _ _ _ h => h) (Or.inl ⟨by rfl, ?_⟩) (by assumption) ?_
            rotate_left
            · intro w hSw; (try dsimp only at hSw); go_simp <;> with_reducible rfl
            try simp only [Act.put, List.setIfInBounds_toArray, List.set_cons_zero, List.set_cons_succ]
            refine wpAnyH_take (i := 13) (oi := ⟨some 24, _, _, _, _, _⟩) (v := ?_) rfl (by kernel_rfl) (by kernel_rfl) (by kernel_rfl) (fun _ _ _ h => h) (Or.inl ⟨by rfl, ?_⟩) (by assumption) ?_
            rotate_left
            · intro w hSw; (try dsimp only at hSw); go_simp <;> with_reducible rfl
            try simp only [Act.put, List.setIfInBounds_toArray, List.set_cons_zero, List.set_cons_succ]
            refine wpAnyH_take (i := 14) (oi := ⟨some 25, _, _, _, _, _⟩) (v := ?_) rfl (by kernel_rfl) (by kernel_rfl) (by kernel_rfl) (fun _ _ _ h => h) (Or.inl ⟨by rfl, ?_⟩) (by assumption) ?_
            rotate_left
            · intro w hSw; (try dsimp only at hSw); go_simp <;> with_reducible rfl
            try simp only [Act.put, List.setIfInBounds_toArray, List.set_cons_zero, List.set_cons_succ]
            refine wpAnyH_take (i := 15) (oi := ⟨some 26, _, _, _, _, _⟩) rfl (by kernel_rfl) (by kernel_rfl) (by kernel_rfl) (fun _ _ _ h => h) (yieldsIf_load_mid (by rfl) 46 _ rfl b (o + j * 35) rfl (keyV e1.key) _ (fun w h => hy1.out w h) Try.underlying46 rfl hik1) (by assumption) ?_
            try simp only [Act.put, List.setIfInBounds_toArray, List.set_cons_zero, List.set_cons_succ]
            refine wpAnyH_take (i := 16) (oi := ⟨some 27, _, _, _, _, _⟩) (v := ?_) rfl (by kernel_rfl) (by kernel_rfl) (by kernel_rfl) (fun _ _ _ h => h) (Or.inl ⟨by rfl, ?_⟩) (by assumption) ?_
            rotate_left
            · intro w hSw; (try dsimp only at hSw); go_simp <;> with_reducible rfl
            try simp only [Act.put, List.setIfInBounds_toArray, List.set_cons_zero, List.set_cons_succ]
            refine wpAnyH_take (i := 17) (oi := ⟨some 28, _, _, _, _, _⟩) (v := ?_) rfl (by kernel_rfl) (by kernel_rfl) (by kernel_rfl) (fun _ _ _ h => h) (Or.inl ⟨by rfl, ?_⟩) (by assumption) ?_
            rotate_left
            · intro w hSw; (try dsimp only at hSw); go_simp <;> with_reducible rfl
            try simp only [Act.put, List.setIfInBounds_toArray, List.set_cons_zero, List.set_cons_succ]
            refine wpAnyH_take (i := 18) (oi := ⟨some 29, _, _, _, _, _⟩) (v := ?_) rfl (by kernel_rfl) (by kernel_rfl) (by kernel_rfl) (fun _ _ _ h => h) (Or.inl ⟨by rfl, ?_⟩) (by assumption) ?_
            rotate_left
            · intro w hSw; (try dsimp only at hSw); go_simp <;> with_reducible rfl
            try simp only [Act.put, List.setIfInBounds_toArray, List.set_cons_zero, List.set_cons_succ]
            refine wpAnyH_take (i := 19) (oi := ⟨some 30, _, _, _, _, _⟩) (v := ?_) rfl (by kernel_rfl) (by kernel_rfl) (by kernel_rfl) (fun _ _ _ h => h) (Or.inl ⟨by rfl, ?_⟩) (by assumption) ?_
            rotate_left
            · intro w hSw; (try dsimp only at hSw); go_simp <;> with_reducible rfl
            try simp only [Act.put, List.setIfInBounds_toArray, List.set_cons_zero, List.set_cons_succ]
            refine wpAnyH_take (i := 20) (oi := ⟨some 31, _, _, _, _, _⟩) rfl (by kernel_rfl) (by kernel_rfl) (by kernel_rfl) (fun _ _ _ h => h) (yieldsIf_load_mid (by rfl) 46 _ rfl b (o + k * 35) rfl (keyV e2.key) _ (fun w h => hy2.out w h) Try.underlying46 rfl hik2) (by assumption) ?_
            try simp only [Act.put, List.setIfInBounds_toArray, List.set_cons_zero, List.set_cons_succ]
            refine wpAnyH_ready (rs := [21]) (by kernel_rfl) (by simp) ?_
            refine AllReadyH.cons rfl (fun K hK => ?_) AllReadyH.nil
            go_simp
            refine (cL.out _ hHeld).mono ?_
            rintro r w7 ⟨rfl, b7⟩
            have b8 := hHeld.trans (b7.mono hHeld.size)
            clear hHeld b7
            refine hK.out _ _ (b8) (fun hHeld => ?_)
            clear hK K
            try simp only [Act.put, List.setIfInBounds_toArray, List.set_cons_zero, List.set_cons_succ]
            refine wpAnyH_take (i := 22) (oi := ⟨some 33, _, _, _, _, _⟩) (v := ?_) rfl (by kernel_rfl) (by kernel_rfl) (by kernel_rfl) (fun _ _ _ h => h) (Or.inl ⟨by rfl, ?_⟩) (by assumption) ?_
            rotate_left
            · intro w hSw; (try dsimp only at hSw); go_simp <;> with_reducible rfl
            try simp only [Act.put, List.setIfInBounds_toArray, List.set_cons_zero, List.set_cons_succ]
            refine wpAnyH_take (i := 23) (oi := ⟨some 34, _, _, _, _, _⟩) (v := ?_) rfl (by kernel_rfl) (by kernel_rfl) (by kernel_rfl) (fun _ _ _ h => h) (Or.inl ⟨by rfl, ?_⟩) (by assumption) ?_
            rotate_left
            · intro w hSw; (try dsimp only at hSw); go_simp <;> with_reducible rfl
            try simp only [Act.put, List.setIfInBounds_toArray, List.set_cons_zero, List.set_cons_succ]
            refine wpAnyH_take (i := 24) (oi := ⟨some 35, _, _, _, _, _⟩) (v := ?_) rfl (by kernel_rfl) (by kernel_rfl) (by kernel_rfl) (fun _ _ _ h => h) (Or.inl ⟨by rfl, ?_⟩) (by assumption) ?_
            rotate_left
            · intro w hSw; (try dsimp only at hSw); go_simp <;> with_reducible rfl
            try simp only [Act.put, List.setIfInBounds_toArray, List.set_cons_zero, List.set_cons_succ]
            refine wpAnyH_done (by kernel_rfl) ?_ _
            skip
            go_wp2_with (fail)
            go_ret
            exact ⟨rfl, qB2.trans (hHeld.mono (by have := qB2.size; have := hn₀.out; omega))⟩
          | true =>
            rw [Bool.true_and] at hstep
            have hok : apartTo l k k = true → rGoodTo l (k + 1) = true := fun h => hstep.trans h
            have hbad : apartTo l k k = false → rb = false := fun h => by rw [← hrb2]; exact rGoodTo_stop (hstep.trans h) (by omega)
            clear hstep
            replace hrb2 := hid hrb2
            go_upto_region 4 with (fail)
            refine wp_region_held_drew (S := (fun W => Below wr.drew.heap.size wr.drew W)) (by kernel_rfl) hst (fun hHeld => ?_)
            generalize wr.drew = W5 at *
            refine wpAnyH_take (i := 0) (oi := ⟨some 11, _, _, _, _, _⟩) (v := ?_) rfl (by kernel_rfl) (by kernel_rfl) (by kernel_rfl) (fun _ _ _ h => h) (Or.inl ⟨by rfl, ?_⟩) (by assumption) ?_
            rotate_left
            · intro w hSw; (try dsimp only at hSw); go_simp <;> with_reducible rfl
            try simp only [Act.put, List.setIfInBounds_toArray, List.set_cons_zero, List.set_cons_succ]
            refine wpAnyH_take (i := 1) (oi := ⟨some 12, _, _, _, _, _⟩) (v := ?_) rfl (by kernel_rfl) (by kernel_rfl) (by kernel_rfl) (fun _ _ _ h => h) (Or.inl ⟨by rfl, ?_⟩) (by assumption) ?_
            rotate_left
            · intro w hSw; (try dsimp only at hSw); go_simp <;> with_reducible rfl
            try simp only [Act.put, List.setIfInBounds_toArray, List.set_cons_zero, List.set_cons_succ]
            refine wpAnyH_take (i := 2) (oi := ⟨some 13, _, _, _, _, _⟩) (v := ?_) rfl (by kernel_rfl) (by kernel_rfl) (by kernel_rfl) (fun _ _ _ h => h) (Or.inl ⟨by rfl, ?_⟩) (by assumption) ?_
            rotate_left
            · intro w hSw; (try dsimp only at hSw); go_simp <;> with_reducible rfl
            try simp only [Act.put, List.setIfInBounds_toArray, List.set_cons_zero, List.set_cons_succ]
            refine wpAnyH_take (i := 3) (oi := ⟨some 14, _, _, _, _, _⟩) rfl (by kernel_rfl) (by kernel_rfl) (by kernel_rfl) (fun _ _ _ h => h) (yieldsIf_load_mid (by rfl) 48 _ rfl b (o + k * 35) rfl (encE e2) _ (fun w h => hx2.out w h) Try.underlying48 rfl hi2) (by assumption) ?_
            try simp only [Act.put, List.setIfInBounds_toArray, List.set_cons_zero, List.set_cons_succ]
            refine wpAnyH_ready (rs := [4]) (by kernel_rfl) (by simp) ?_
            refine AllReadyH.cons rfl (fun K hK => ?_) AllReadyH.nil
            go_simp
            refine (cO.out _ hHeld).mono ?_
            rintro r w7 ⟨rfl, b7⟩
            have b8 := hHeld.trans (b7.mono hHeld.size)
            clear hHeld b7
            refine hK.out _ _ (b8) (fun hHeld => ?_)
            clear hK K
            try simp only [Act.put, List.setIfInBounds_toArray, List.set_cons_zero, List.set_cons_succ]
            refine wpAnyH_take (i := 5) (oi := ⟨some 16, _, _, _, _, _⟩) (v := ?_) rfl (by kernel_rfl) (by kernel_rfl) (by kernel_rfl) (fun _ _ _ h => h) (Or.inl ⟨by rfl, ?_⟩) (by assumption) ?_
            rotate_left
            · intro w hSw; (try dsimp only at hSw); go_simp <;> with_reducible rfl
            try simp only [Act.put, List.setIfInBounds_toArray, List.set_cons_zero, List.set_cons_succ]
            refine wpAnyH_take (i := 6) (oi := ⟨some 17, _, _, _, _, _⟩) (v := ?_) rfl (by kernel_rfl) (by kernel_rfl) (by kernel_rfl) (fun _ _ _ h => h) (Or.inl ⟨by rfl, ?_⟩) (by assumption) ?_
            rotate_left
            · intro w hSw; (try dsimp only at hSw); go_simp <;> with_reducible rfl
            try simp only [Act.put, List.setIfInBounds_toArray, List.set_cons_zero, List.set_cons_succ]
            refine wpAnyH_take (i := 7) (oi := ⟨some 18, _, _, _, _, _⟩) (v := ?_) rfl (by kernel_rfl) (by kernel_rfl) (by kernel_rfl) (fun _ _ _ h => h) (Or.inl ⟨by rfl, ?_⟩) (by assumption) ?_
            rotate_left
            · intro w hSw; (try dsimp only at hSw); go_simp <;> with_reducible rfl
            try simp only [Act.put, List.setIfInBounds_toArray, List.set_cons_zero, List.set_cons_succ]
            refine wpAnyH_take (i := 8) (oi := ⟨some 19, _, _, _, _, _⟩) (v := ?_) rfl (by kernel_rfl) (by kernel_rfl) (by kernel_rfl) (fun _ _ _ h => h) (Or.inl ⟨by rfl, ?_⟩) (by assumption) ?_
            rotate_left
            · intro w hSw; (try dsimp only at hSw); go_simp <;> with_reducible rfl
            try simp only [Act.put, List.setIfInBounds_toArray, List.set_cons_zero, List.set_cons_succ]
            refine wpAnyH_take (i := 9) (oi := ⟨some 20, _, _, _, _, _⟩) (v := ?_) rfl (by kernel_rfl) (by kernel_rfl) (by kernel_rfl) (fun _ _ _ h => h) (Or.inl ⟨by rfl, ?_⟩) (by assumption) ?_
            rotate_left
            · intro w hSw; (try dsimp only at hSw); go_simp <;> with_reducible rfl
            try simp only [Act.put, List.setIfInBounds_toArray, List.set_cons_zero, List.set_cons_succ]
            refine wpAnyH_take (i := 10) (oi := ⟨some 21, _, _, _, _, _⟩) (v := ?_) rfl (by kernel_rfl) (by kernel_rfl) (by kernel_rfl) (fun _ _ _ h => h) (Or.inl ⟨by rfl, ?_⟩) (by assumption) ?_
            rotate_left
            · intro w hSw; (try dsimp only at hSw); go_simp <;> with_reducible rfl
            try simp only [Act.put, List.setIfInBounds_toArray, List.set_cons_zero, List.set_cons_succ]
            refine wpAnyH_take (i := 11) (oi := ⟨some 22, _, _, _, _, _⟩) (v := ?_) rfl (by kernel_rfl) (by kernel_rfl) (by kernel_rfl) (fun _ _ _ h => h) (Or.inl ⟨by rfl, ?_⟩) (by assumption) ?_
            rotate_left
            · intro w hSw; (try dsimp only at hSw); go_simp <;> with_reducible rfl
            try simp only [Act.put, List.setIfInBounds_toArray, List.set_cons_zero, List.set_cons_succ]
            refine wpAnyH_take (i := 12) (oi := ⟨some 23, _, _, _, _, _⟩) (v := ?_) rfl (by kernel_rfl) (by kernel_rfl) (by kernel_rfl) (fun _ _ _ h => h) (Or.inl ⟨by rfl, ?_⟩) (by assumption) ?_
            rotate_left
            · intro w hSw; (try dsimp only at hSw); go_simp <;> with_reducible rfl
            try simp only [Act.put, List.setIfInBounds_toArray, List.set_cons_zero, List.set_cons_succ]
            refine wpAnyH_take (i := 13) (oi := ⟨some 24, _, _, _, _, _⟩) (v := ?_) rfl (by kernel_rfl) (by kernel_rfl) (by kernel_rfl) (fun _ _ _ h => h) (Or.inl ⟨by rfl, ?_⟩) (by assumption) ?_
            rotate_left
            · intro w hSw; (try dsimp only at hSw); go_simp <;> with_reducible rfl
            try simp only [Act.put, List.setIfInBounds_toArray, List.set_cons_zero, List.set_cons_succ]
            refine wpAnyH_take (i := 14) (oi := ⟨some 25, _, _, _, _, _⟩) (v := ?_) rfl (by kernel_rfl) (by kernel_rfl) (by kernel_rfl) (fun _ _ _ h => h) (Or.inl ⟨by rfl, ?_⟩) (by assumption) ?_
            rotate_left
            · intro w hSw; (try dsimp only at hSw); go_simp <;> with_reducible rfl
            try simp only [Act.put, List.setIfInBounds_toArray, List.set_cons_zero, List.set_cons_succ]
            refine wpAnyH_take (i := 15) (oi := ⟨some 26, _, _, _, _, _⟩) rfl (by kernel_rfl) (by kernel_rfl) (by kernel_rfl) (fun _ _ _ h => h) (yieldsIf_load_mid (by rfl) 46 _ rfl b (o + j * 35) rfl (keyV e1.key) _ (fun w h => hy1.out w h) Try.underlying46 rfl hik1) (by assumption) ?_
            try simp only [Act.put, List.setIfInBounds_toArray, List.set_cons_zero, List.set_cons_succ]
            refine wpAnyH_take (i := 16) (oi := ⟨some 27, _, _, _, _, _⟩) (v := ?_) rfl (by kernel_rfl) (by kernel_rfl) (by kernel_rfl) (fun _ _ _ h => h) (Or.inl ⟨by rfl, ?_⟩) (by assumption) ?_
            rotate_left
            · intro w hSw; (try dsimp only at hSw); go_simp <;> with_reducible rfl
            try simp only [Act.put, List.setIfInBounds_toArray, List.set_cons_zero, List.set_cons_succ]
            refine wpAnyH_take (i := 17) (oi := ⟨some 28, _, _, _, _, _⟩) (v := ?_) rfl (by kernel_rfl) (by kernel_rfl) (by kernel_rfl) (fun _ _ _ h => h) (Or.inl ⟨by rfl, ?_⟩) (by assumption) ?_
            rotate_left
            · intro w hSw; (try dsimp only at hSw); go_simp <;> with_reducible rfl
            try simp only [Act.put, List.setIfInBounds_toArray, List.set_cons_zero, List.set_cons_succ]
            refine wpAnyH_take (i := 18) (oi := ⟨some 29, _, _, _, _, _⟩) (v := ?_) rfl (by kernel_rfl) (by kernel_rfl) (by kernel_rfl) (fun _ _ _ h => h) (Or.inl ⟨by rfl, ?_⟩) (by assumption) ?_
            rotate_left
            · intro w hSw; (try dsimp only at hSw); go_simp <;> with_reducible rfl
            try simp only [Act.put, List.setIfInBounds_toArray, List.set_cons_zero, List.set_cons_succ]
            refine wpAnyH_take (i := 19) (oi := ⟨some 30, _, _, _, _, _⟩) (v := ?_) rfl (by kernel_rfl) (by kernel_rfl) (by kernel_rfl) (fun _ _ _ h => h) (Or.inl ⟨by rfl, ?_⟩) (by assumption) ?_
            rotate_left
            · intro w hSw; (try dsimp only at hSw); go_simp <;> with_reducible rfl
            try simp only [Act.put, List.setIfInBounds_toArray, List.set_cons_zero, List.set_cons_succ]
            refine wpAnyH_take (i := 20) (oi := ⟨some 31, _, _, _, _, _⟩) rfl (by kernel_rfl) (by kernel_rfl) (by kernel_rfl) (fun _ _ _ h => h) (yieldsIf_load_mid (by rfl) 46 _ rfl b (o + k * 35) rfl (keyV e2.key) _ (fun w h => hy2.out w h) Try.underlying46 rfl hik2) (by assumption) ?_
            try simp only [Act.put, List.setIfInBounds_toArray, List.set_cons_zero, List.set_cons_succ]
            refine wpAnyH_ready (rs := [21]) (by kernel_rfl) (by simp) ?_
            refine AllReadyH.cons rfl (fun K hK => ?_) AllReadyH.nil
            go_simp
            refine (cL.out _ hHeld).mono ?_
            rintro r w7 ⟨rfl, b7⟩
            have b8 := hHeld.trans (b7.mono hHeld.size)
            clear hHeld b7
            refine hK.out _ _ (b8) (fun hHeld => ?_)
            clear hK K
            try simp only [Act.put, List.setIfInBounds_toArray, List.set_cons_zero, List.set_cons_succ]
            refine wpAnyH_take (i := 22) (oi := ⟨some 33, _, _, _, _, _⟩) (v := ?_) rfl (by kernel_rfl) (by kernel_rfl) (by kernel_rfl) (fun _ _ _ h => h) (Or.inl ⟨by rfl, ?_⟩) (by assumption) ?_
            rotate_left
            · intro w hSw; (try dsimp only at hSw); go_simp <;> with_reducible rfl
            try simp only [Act.put, List.setIfInBounds_toArray, List.set_cons_zero, List.set_cons_succ]
            refine wpAnyH_take (i := 23) (oi := ⟨some 34, _, _, _, _, _⟩) (v := ?_) rfl (by kernel_rfl) (by kernel_rfl) (by kernel_rfl) (fun _ _ _ h => h) (Or.inl ⟨by rfl, ?_⟩) (by assumption) ?_
            rotate_left
            · intro w hSw; (try dsimp only at hSw); go_simp <;> with_reducible rfl
            try simp only [Act.put, List.setIfInBounds_toArray, List.set_cons_zero, List.set_cons_succ]
            refine wpAnyH_take (i := 24) (oi := ⟨some 35, _, _, _, _, _⟩) (v := ?_) rfl (by kernel_rfl) (by kernel_rfl) (by kernel_rfl) (fun _ _ _ h => h) (Or.inl ⟨by rfl, ?_⟩) (by assumption) ?_
            rotate_left
            · intro w hSw; (try dsimp only at hSw); go_simp <;> with_reducible rfl
            try simp only [Act.put, List.setIfInBounds_toArray, List.set_cons_zero, List.set_cons_succ]
            refine wpAnyH_done (by kernel_rfl) ?_ _
            skip
            clear cL hy1 hik1
            have qB7 : Below n₀ w w7 := qB2.trans (hHeld.mono (by have := qB2.size; have := hn₀.out; omega))
            clear hHeld qB2 cO hst
            replace hbad := hid hbad
            replace hok := hid hok
            go_wp2_with (fail)
            go_loopw [4] (fun jv wz => ∃ j : Nat, j ≤ k ∧ jv = .int .i64 j ∧ apartTo l k j = true ∧ Below n₀ w wz) (fun jv _ => k - (RowKit.intOf jv).toNat)
            case atStart => exact ⟨0, Nat.zero_le _, rfl, rfl, qB7⟩
            case round =>
              obtain ⟨j, hjk, rfl, hap, zB⟩ := hrel
              clear qB7
              by_cases hjl : j < k
              · have hjkI : (j : Int) < (k : Int) := by omega
                have hjLI : (j : Int) < (L : Int) := by omega
                obtain ⟨ea, hea⟩ : ∃ e, l[j]? = some e := ⟨_, List.getElem?_eq_getElem (by have := hL.out; omega)⟩
                have hka := hk ea (List.mem_of_getElem? hea)
                have hoa : oneE ea = true := by
                  have h9 := rGoodTo_at hacc.out hjl
                  unfold okAt oneAt at h9
                  rw [hea, Bool.and_eq_true] at h9
                  exact h9.1
                obtain ⟨p1, p2, p3, p4, p5, -, -⟩ := oneE_is hoa
                obtain ⟨q1, q2, q3, q4, q5, -, -⟩ := oneE_is ho.out
                have zB2 : Below n₀ w wr.drew := zB.drewN 1
                obtain ⟨c1, c2, -⟩ := cell_place (hcB.out _ zB2 k e2 he2.out) hk2
                obtain ⟨c3, c4, -⟩ := cell_place (hcB.out _ zB2 j ea hea) hka
                have hov : overE (l.getD j entD) (l.getD k entD) = (decide (ea.place < e2.place + e2.blocks) && decide (e2.place < ea.place + ea.blocks)) := by
                  rw [List.getD_eq_getElem?_getD, List.getD_eq_getElem?_getD, hea, he2.out]; rfl
                have hstp := apartTo_succ l k j
                rw [hap, Bool.true_and, hov] at hstp
                have hw1 : IntKind.i64.wrap (e2.place + e2.blocks) = e2.place + e2.blocks := by rw [IntKind.wrap_i64]; omega
                have hw2 : IntKind.i64.wrap (ea.place + ea.blocks) = ea.place + ea.blocks := by rw [IntKind.wrap_i64]; omega
                clear hov hea hap zB hoa p1 p2 p3 p4 p5 q1 q2 q3 q4 q5
                have hst : (fun W => W.cell? ⟨b, o + k * 35 + 32, none⟩ = some (.int .i64 e2.place) ∧ W.cell? ⟨b, o + k * 35 + 33, none⟩ = some (.int .i64 e2.blocks) ∧ W.cell? ⟨b, o + j * 35 + 32, none⟩ = some (.int .i64 ea.place) ∧ W.cell? ⟨b, o + j * 35 + 33, none⟩ = some (.int .i64 ea.blocks)) wr.drew := ⟨c1, c2, c3, c4⟩
                clear c1 c2 c3 c4
                obtain ⟨pi, hpi⟩ : ∃ x, e2.place = x := ⟨_, rfl⟩
                obtain ⟨bi, hbi⟩ : ∃ x, e2.blocks = x := ⟨_, rfl⟩
                obtain ⟨pj, hpj⟩ : ∃ x, ea.place = x := ⟨_, rfl⟩
                obtain ⟨bj, hbj⟩ : ∃ x, ea.blocks = x := ⟨_, rfl⟩
                rw [hpi, hbi, hpj, hbj] at hst hstp
                rw [hpi, hbi] at hw1
                rw [hpj, hbj] at hw2
                clear hpi hbi hpj hbj
                by_cases m1 : pj < pi + bi
                · by_cases m2 : pi < pj + bj
                  · rw [decide_eq_true m1, decide_eq_true m2] at hstp
                    obtain rfl := hbad.out (apartTo_stop hstp (by omega))
                    clear hstp
                    go_upto_region 9 with (fail)
                    refine wp_region_held_drew (S := (fun W => W.cell? ⟨b, o + k * 35 + 32, none⟩ = some (.int .i64 pi) ∧ W.cell? ⟨b, o + k * 35 + 33, none⟩ = some (.int .i64 bi) ∧ W.cell? ⟨b, o + j * 35 + 32, none⟩ = some (.int .i64 pj) ∧ W.cell? ⟨b, o + j * 35 + 33, none⟩ = some (.int .i64 bj))) (by kernel_rfl) hst (fun hHeld => ?_)
                    refine wpAnyH_take (i := 0) (oi := ⟨some 41, _, _, _, _, _⟩) (v := ?_) rfl (by kernel_rfl) (by kernel_rfl) (by kernel_rfl) (fun _ _ _ h => h) (Or.inl ⟨by rfl, ?_⟩) (by assumption) ?_
                    rotate_left
                    · intro w hSw; (try dsimp only at hSw); go_simp <;> with_reducible rfl
                    try simp only [Act.put, List.setIfInBounds_toArray, List.set_cons_zero, List.set_cons_succ]
                    refine wpAnyH_take (i := 1) (oi := ⟨some 42, _, _, _, _, _⟩) (v := ?_) rfl (by kernel_rfl) (by kernel_rfl) (by kernel_rfl) (fun _ _ _ h => h) (Or.inl ⟨by rfl, ?_⟩) (by assumption) ?_
                    rotate_left
                    · intro w hSw; (try dsimp only at hSw); go_simp <;> with_reducible rfl
                    try simp only [Act.put, List.setIfInBounds_toArray, List.set_cons_zero, List.set_cons_succ]
                    refine wpAnyH_take (i := 2) (oi := ⟨some 43, _, _, _, _, _⟩) (v := ?_) rfl (by kernel_rfl) (by kernel_rfl) (by kernel_rfl) (fun _ _ _ h => h) (Or.inl ⟨by rfl, ?_⟩) (by assumption) ?_
                    rotate_left
                    · intro w hSw; (try dsimp only at hSw); go_simp <;> with_reducible rfl
                    try simp only [Act.put, List.setIfInBounds_toArray, List.set_cons_zero, List.set_cons_succ]
                    refine wpAnyH_take (i := 3) (oi := ⟨some 44, _, _, _, _, _⟩) (v := ?_) rfl (by kernel_rfl) (by kernel_rfl) (by kernel_rfl) (fun _ _ _ h => h) (Or.inl ⟨by rfl, ?_⟩) (by assumption) ?_
                    rotate_left
                    · intro w hSw; (try dsimp only at hSw); go_simp <;> with_reducible rfl
                    try simp only [Act.put, List.setIfInBounds_toArray, List.set_cons_zero, List.set_cons_succ]
                    refine wpAnyH_take (i := 4) (oi := ⟨some 45, _, _, _, _, _⟩) (v := ?_) rfl (by kernel_rfl) (by kernel_rfl) (by kernel_rfl) (fun _ _ _ h => h) (Or.inl ⟨by rfl, ?_⟩) (by assumption) ?_
                    rotate_left
                    · intro w hSw; (try dsimp only at hSw); go_simp <;> with_reducible rfl
                    try simp only [Act.put, List.setIfInBounds_toArray, List.set_cons_zero, List.set_cons_succ]
                    refine wpAnyH_take (i := 5) (oi := ⟨some 46, _, _, _, _, _⟩) (v := ?_) rfl (by kernel_rfl) (by kernel_rfl) (by kernel_rfl) (fun _ _ _ h => h) (Or.inl ⟨by rfl, ?_⟩) (by assumption) ?_
                    rotate_left
                    · intro w hSw; (try dsimp only at hSw); go_simp <;> with_reducible rfl
                    try simp only [Act.put, List.setIfInBounds_toArray, List.set_cons_zero, List.set_cons_succ]
                    refine wpAnyH_take (i := 6) (oi := ⟨some 47, _, _, _, _, _⟩) (v := ?_) rfl (by kernel_rfl) (by kernel_rfl) (by kernel_rfl) (fun _ _ _ h => h) (Or.inl ⟨by rfl, ?_⟩) (by assumption) ?_
                    rotate_left
                    · intro w hSw; (try dsimp only at hSw); go_simp <;> with_reducible rfl
                    try simp only [Act.put, List.setIfInBounds_toArray, List.set_cons_zero, List.set_cons_succ]
                    refine wpAnyH_take (i := 7) (oi := ⟨some 48, _, _, _, _, _⟩) (v := ?_) rfl (by kernel_rfl) (by kernel_rfl) (by kernel_rfl) (fun _ _ _ h => h) (Or.inl ⟨by rfl, ?_⟩) (by assumption) ?_
                    rotate_left
                    · intro w hSw; (try dsimp only at hSw); go_simp <;> with_reducible rfl
                    try simp only [Act.put, List.setIfInBounds_toArray, List.set_cons_zero, List.set_cons_succ]
                    refine wpAnyH_take (i := 8) (oi := ⟨some 49, _, _, _, _, _⟩) (v := ?_) rfl (by kernel_rfl) (by kernel_rfl) (by kernel_rfl) (fun _ _ _ h => h) (Or.inl ⟨by rfl, ?_⟩) (by assumption) ?_
                    rotate_left
                    · intro w hSw; (try dsimp only at hSw); go_simp <;> with_reducible rfl
                    try simp only [Act.put, List.setIfInBounds_toArray, List.set_cons_zero, List.set_cons_succ]
                    refine wpAnyH_take (i := 9) (oi := ⟨some 50, _, _, _, _, _⟩) (v := ?_) rfl (by kernel_rfl) (by kernel_rfl) (by kernel_rfl) (fun _ _ _ h => h) (Or.inl ⟨by rfl, ?_⟩) (by assumption) ?_
                    rotate_left
                    · intro w hSw; (try dsimp only at hSw); go_simp <;> with_reducible rfl
                    try simp only [Act.put, List.setIfInBounds_toArray, List.set_cons_zero, List.set_cons_succ]
                    refine wpAnyH_take (i := 10) (oi := ⟨some 51, _, _, _, _, _⟩) (v := ?_) rfl (by kernel_rfl) (by kernel_rfl) (by kernel_rfl) (fun _ _ _ h => h) (Or.inl ⟨by rfl, ?_⟩) (by assumption) ?_
                    rotate_left
                    · intro w hSw; (try dsimp only at hSw); go_simp <;> with_reducible rfl
                    try simp only [Act.put, List.setIfInBounds_toArray, List.set_cons_zero, List.set_cons_succ]
                    refine wpAnyH_take (i := 11) (oi := ⟨some 52, _, _, _, _, _⟩) (v := ?_) rfl (by kernel_rfl) (by kernel_rfl) (by kernel_rfl) (fun _ _ _ h => h) (Or.inl ⟨by rfl, ?_⟩) (by assumption) ?_
                    rotate_left
                    · intro w hSw; (try dsimp only at hSw); go_simp <;> with_reducible rfl
                    try simp only [Act.put, List.setIfInBounds_toArray, List.set_cons_zero, List.set_cons_succ]
                    refine wpAnyH_take (i := 12) (oi := ⟨some 53, _, _, _, _, _⟩) (v := ?_) rfl (by kernel_rfl) (by kernel_rfl) (by kernel_rfl) (fun _ _ _ h => h) (Or.inl ⟨by rfl, ?_⟩) (by assumption) ?_
                    rotate_left
                    · intro w hSw; (try dsimp only at hSw); go_simp <;> with_reducible rfl
                    try simp only [Act.put, List.setIfInBounds_toArray, List.set_cons_zero, List.set_cons_succ]
                    refine wpAnyH_take (i := 13) (oi := ⟨some 54, _, _, _, _, _⟩) (v := ?_) rfl (by kernel_rfl) (by kernel_rfl) (by kernel_rfl) (fun _ _ _ h => h) (Or.inl ⟨by rfl, ?_⟩) (by assumption) ?_
                    rotate_left
                    · intro w hSw; (try dsimp only at hSw); go_simp <;> with_reducible rfl
                    try simp only [Act.put, List.setIfInBounds_toArray, List.set_cons_zero, List.set_cons_succ]
                    refine wpAnyH_take (i := 14) (oi := ⟨some 55, _, _, _, _, _⟩) (v := ?_) rfl (by kernel_rfl) (by kernel_rfl) (by kernel_rfl) (fun _ _ _ h => h) (Or.inl ⟨by rfl, ?_⟩) (by assumption) ?_
                    rotate_left
                    · intro w hSw; (try dsimp only at hSw); go_simp <;> with_reducible rfl
                    try simp only [Act.put, List.setIfInBounds_toArray, List.set_cons_zero, List.set_cons_succ]
                    refine wpAnyH_take (i := 15) (oi := ⟨some 56, _, _, _, _, _⟩) (v := ?_) rfl (by kernel_rfl) (by kernel_rfl) (by kernel_rfl) (fun _ _ _ h => h) (Or.inl ⟨by rfl, ?_⟩) (by assumption) ?_
                    rotate_left
                    · intro w hSw; (try dsimp only at hSw); go_simp <;> with_reducible rfl
                    try simp only [Act.put, List.setIfInBounds_toArray, List.set_cons_zero, List.set_cons_succ]
                    refine wpAnyH_take (i := 16) (oi := ⟨some 57, _, _, _, _, _⟩) (v := ?_) rfl (by kernel_rfl) (by kernel_rfl) (by kernel_rfl) (fun _ _ _ h => h) (Or.inl ⟨by rfl, ?_⟩) (by assumption) ?_
                    rotate_left
                    · intro w hSw; (try dsimp only at hSw); go_simp <;> with_reducible rfl
                    try simp only [Act.put, List.setIfInBounds_toArray, List.set_cons_zero, List.set_cons_succ]
                    refine wpAnyH_take (i := 17) (oi := ⟨some 58, _, _, _, _, _⟩) (v := ?_) rfl (by kernel_rfl) (by kernel_rfl) (by kernel_rfl) (fun _ _ _ h => h) (Or.inl ⟨by rfl, ?_⟩) (by assumption) ?_
                    rotate_left
                    · intro w hSw; (try dsimp only at hSw); go_simp <;> with_reducible rfl
                    try simp only [Act.put, List.setIfInBounds_toArray, List.set_cons_zero, List.set_cons_succ]
                    refine wpAnyH_take (i := 18) (oi := ⟨some 59, _, _, _, _, _⟩) (v := ?_) rfl (by kernel_rfl) (by kernel_rfl) (by kernel_rfl) (fun _ _ _ h => h) (Or.inl ⟨by rfl, ?_⟩) (by assumption) ?_
                    rotate_left
                    · intro w hSw; (try dsimp only at hSw); go_simp <;> with_reducible rfl
                    try simp only [Act.put, List.setIfInBounds_toArray, List.set_cons_zero, List.set_cons_succ]
                    refine wpAnyH_take (i := 19) (oi := ⟨some 60, _, _, _, _, _⟩) (v := ?_) rfl (by kernel_rfl) (by kernel_rfl) (by kernel_rfl) (fun _ _ _ h => h) (Or.inl ⟨by rfl, ?_⟩) (by assumption) ?_
                    rotate_left
                    · intro w hSw; (try dsimp only at hSw); go_simp <;> with_reducible rfl
                    try simp only [Act.put, List.setIfInBounds_toArray, List.set_cons_zero, List.set_cons_succ]
                    refine wpAnyH_take (i := 20) (oi := ⟨some 61, _, _, _, _, _⟩) (v := ?_) rfl (by kernel_rfl) (by kernel_rfl) (by kernel_rfl) (fun _ _ _ h => h) (Or.inl ⟨by rfl, ?_⟩) (by assumption) ?_
                    rotate_left
                    · intro w hSw; (try dsimp only at hSw); go_simp <;> with_reducible rfl
                    try simp only [Act.put, List.setIfInBounds_toArray, List.set_cons_zero, List.set_cons_succ]
                    refine wpAnyH_take (i := 21) (oi := ⟨some 62, _, _, _, _, _⟩) (v := ?_) rfl (by kernel_rfl) (by kernel_rfl) (by kernel_rfl) (fun _ _ _ h => h) (Or.inl ⟨by rfl, ?_⟩) (by assumption) ?_
                    rotate_left
                    · intro w hSw; (try dsimp only at hSw); go_simp <;> with_reducible rfl
                    try simp only [Act.put, List.setIfInBounds_toArray, List.set_cons_zero, List.set_cons_succ]
                    refine wpAnyH_take (i := 22) (oi := ⟨some 63, _, _, _, _, _⟩) (v := ?_) rfl (by kernel_rfl) (by kernel_rfl) (by kernel_rfl) (fun _ _ _ h => h) (Or.inl ⟨by rfl, ?_⟩) (by assumption) ?_
                    rotate_left
                    · intro w hSw; (try dsimp only at hSw); go_simp <;> with_reducible rfl
                    try simp only [Act.put, List.setIfInBounds_toArray, List.set_cons_zero, List.set_cons_succ]
                    refine wpAnyH_take (i := 23) (oi := ⟨some 64, _, _, _, _, _⟩) (v := ?_) rfl (by kernel_rfl) (by kernel_rfl) (by kernel_rfl) (fun _ _ _ h => h) (Or.inl ⟨by rfl, ?_⟩) (by assumption) ?_
                    rotate_left
                    · intro w hSw; (try dsimp only at hSw); go_simp <;> with_reducible rfl
                    try simp only [Act.put, List.setIfInBounds_toArray, List.set_cons_zero, List.set_cons_succ]
                    refine wpAnyH_take (i := 24) (oi := ⟨some 65, _, _, _, _, _⟩) (v := ?_) rfl (by kernel_rfl) (by kernel_rfl) (by kernel_rfl) (fun _ _ _ h => h) (Or.inl ⟨by rfl, ?_⟩) (by assumption) ?_
                    rotate_left
                    · intro w hSw; (try dsimp only at hSw); go_simp <;> with_reducible rfl
                    try simp only [Act.put, List.setIfInBounds_toArray, List.set_cons_zero, List.set_cons_succ]
                    refine wpAnyH_take (i := 25) (oi := ⟨some 66, _, _, _, _, _⟩) (v := ?_) rfl (by kernel_rfl) (by kernel_rfl) (by kernel_rfl) (fun _ _ _ h => h) (Or.inl ⟨by rfl, ?_⟩) (by assumption) ?_
                    rotate_left
                    · intro w hSw; (try dsimp only at hSw); go_simp <;> with_reducible rfl
                    try simp only [Act.put, List.setIfInBounds_toArray, List.set_cons_zero, List.set_cons_succ]
                    refine wpAnyH_take (i := 26) (oi := ⟨some 67, _, _, _, _, _⟩) (v := ?_) rfl (by kernel_rfl) (by kernel_rfl) (by kernel_rfl) (fun _ _ _ h => h) (Or.inl ⟨by rfl, ?_⟩) (by assumption) ?_
                    rotate_left
                    · intro w hSw; (try dsimp only at hSw); go_simp <;> with_reducible rfl
                    try simp only [Act.put, List.setIfInBounds_toArray, List.set_cons_zero, List.set_cons_succ]
                    refine wpAnyH_take (i := 27) (oi := ⟨some 68, _, _, _, _, _⟩) (v := ?_) rfl (by kernel_rfl) (by kernel_rfl) (by kernel_rfl) (fun _ _ _ h => h) (Or.inl ⟨by rfl, ?_⟩) (by assumption) ?_
                    rotate_left
                    · intro w hSw; (try dsimp only at hSw); go_simp <;> with_reducible rfl
                    try simp only [Act.put, List.setIfInBounds_toArray, List.set_cons_zero, List.set_cons_succ]
                    refine wpAnyH_take (i := 28) (oi := ⟨some 69, _, _, _, _, _⟩) (v := ?_) rfl (by kernel_rfl) (by kernel_rfl) (by kernel_rfl) (fun _ _ _ h => h) (Or.inl ⟨by rfl, ?_⟩) (by assumption) ?_
                    rotate_left
                    · intro w hSw; (try dsimp only at hSw); go_simp <;> with_reducible rfl
                    try simp only [Act.put, List.setIfInBounds_toArray, List.set_cons_zero, List.set_cons_succ]
                    refine wpAnyH_take (i := 29) (oi := ⟨some 70, _, _, _, _, _⟩) (v := ?_) rfl (by kernel_rfl) (by kernel_rfl) (by kernel_rfl) (fun _ _ _ h => h) (Or.inl ⟨by rfl, ?_⟩) (by assumption) ?_
                    rotate_left
                    · intro w hSw; (try dsimp only at hSw); go_simp <;> with_reducible rfl
                    try simp only [Act.put, List.setIfInBounds_toArray, List.set_cons_zero, List.set_cons_succ]
                    refine wpAnyH_take (i := 30) (oi := ⟨some 71, _, _, _, _, _⟩) (v := ?_) rfl (by kernel_rfl) (by kernel_rfl) (by kernel_rfl) (fun _ _ _ h => h) (Or.inl ⟨by rfl, ?_⟩) (by assumption) ?_
                    rotate_left
                    · intro w hSw; (try dsimp only at hSw); go_simp <;> with_reducible rfl
                    try simp only [Act.put, List.setIfInBounds_toArray, List.set_cons_zero, List.set_cons_succ]
                    refine wpAnyH_take (i := 31) (oi := ⟨some 72, _, _, _, _, _⟩) (v := ?_) rfl (by kernel_rfl) (by kernel_rfl) (by kernel_rfl) (fun _ _ _ h => h) (Or.inl ⟨by rfl, ?_⟩) (by assumption) ?_
                    rotate_left
                    · intro w hSw; (try dsimp only at hSw); go_simp <;> with_reducible rfl
                    try simp only [Act.put, List.setIfInBounds_toArray, List.set_cons_zero, List.set_cons_succ]
                    refine wpAnyH_take (i := 32) (oi := ⟨some 73, _, _, _, _, _⟩) (v := ?_) rfl (by kernel_rfl) (by kernel_rfl) (by kernel_rfl) (fun _ _ _ h => h) (Or.inl ⟨by rfl, ?_⟩) (by assumption) ?_
                    rotate_left
                    · intro w hSw; (try dsimp only at hSw); go_simp <;> with_reducible rfl
                    try simp only [Act.put, List.setIfInBounds_toArray, List.set_cons_zero, List.set_cons_succ]
                    refine wpAnyH_take (i := 33) (oi := ⟨some 74, _, _, _, _, _⟩) (v := ?_) rfl (by kernel_rfl) (by kernel_rfl) (by kernel_rfl) (fun _ _ _ h => h) (Or.inl ⟨by rfl, ?_⟩) (by assumption) ?_
                    rotate_left
                    · intro w hSw; (try dsimp only at hSw); go_simp <;> with_reducible rfl
                    try simp only [Act.put, List.setIfInBounds_toArray, List.set_cons_zero, List.set_cons_succ]
                    refine wpAnyH_take (i := 34) (oi := ⟨some 75, _, _, _, _, _⟩) (v := ?_) rfl (by kernel_rfl) (by kernel_rfl) (by kernel_rfl) (fun _ _ _ h => h) (Or.inl ⟨by rfl, ?_⟩) (by assumption) ?_
                    rotate_left
                    · intro w hSw; (try dsimp only at hSw); go_simp <;> with_reducible rfl
                    try simp only [Act.put, List.setIfInBounds_toArray, List.set_cons_zero, List.set_cons_succ]
                    refine wpAnyH_take (i := 35) (oi := ⟨some 76, _, _, _, _, _⟩) (v := ?_) rfl (by kernel_rfl) (by kernel_rfl) (by kernel_rfl) (fun _ _ _ h => h) (Or.inl ⟨by rfl, ?_⟩) (by assumption) ?_
                    rotate_left
                    · intro w hSw; (try dsimp only at hSw); go_simp <;> with_reducible rfl
                    try simp only [Act.put, List.setIfInBounds_toArray, List.set_cons_zero, List.set_cons_succ]
                    refine wpAnyH_done (by kernel_rfl) ?_ _
                    skip
                    go_wp2_with (fail)
                    go_ret
                    exact ⟨rfl, zB2⟩
                  · rw [decide_eq_false m2, Bool.and_false] at hstp
                    replace hstp := hid hstp
                    go_upto_region 9 with (fail)
                    refine wp_region_held_drew (S := (fun W => W.cell? ⟨b, o + k * 35 + 32, none⟩ = some (.int .i64 pi) ∧ W.cell? ⟨b, o + k * 35 + 33, none⟩ = some (.int .i64 bi) ∧ W.cell? ⟨b, o + j * 35 + 32, none⟩ = some (.int .i64 pj) ∧ W.cell? ⟨b, o + j * 35 + 33, none⟩ = some (.int .i64 bj))) (by kernel_rfl) hst (fun hHeld => ?_)
                    refine wpAnyH_take (i := 0) (oi := ⟨some 41, _, _, _, _, _⟩) (v := ?_) rfl (by kernel_rfl) (by kernel_rfl) (by kernel_rfl) (fun _ _ _ h => h) (Or.inl ⟨by rfl, ?_⟩) (by assumption) ?_
                    rotate_left
                    · intro w hSw; (try dsimp only at hSw); go_simp <;> with_reducible rfl
                    try simp only [Act.put, List.setIfInBounds_toArray, List.set_cons_zero, List.set_cons_succ]
                    refine wpAnyH_take (i := 1) (oi := ⟨some 42, _, _, _, _, _⟩) (v := ?_) rfl (by kernel_rfl) (by kernel_rfl) (by kernel_rfl) (fun _ _ _ h => h) (Or.inl ⟨by rfl, ?_⟩) (by assumption) ?_
                    rotate_left
                    · intro w hSw; (try dsimp only at hSw); go_simp <;> with_reducible rfl
                    try simp only [Act.put, List.setIfInBounds_toArray, List.set_cons_zero, List.set_cons_succ]
                    refine wpAnyH_take (i := 2) (oi := ⟨some 43, _, _, _, _, _⟩) (v := ?_) rfl (by kernel_rfl) (by kernel_rfl) (by kernel_rfl) (fun _ _ _ h => h) (Or.inl ⟨by rfl, ?_⟩) (by assumption) ?_
                    rotate_left
                    · intro w hSw; (try dsimp only at hSw); go_simp <;> with_reducible rfl
                    try simp only [Act.put, List.setIfInBounds_toArray, List.set_cons_zero, List.set_cons_succ]
                    refine wpAnyH_take (i := 3) (oi := ⟨some 44, _, _, _, _, _⟩) (v := ?_) rfl (by kernel_rfl) (by kernel_rfl) (by kernel_rfl) (fun _ _ _ h => h) (Or.inl ⟨by rfl, ?_⟩) (by assumption) ?_
                    rotate_left
                    · intro w hSw; (try dsimp only at hSw); go_simp <;> with_reducible rfl
                    try simp only [Act.put, List.setIfInBounds_toArray, List.set_cons_zero, List.set_cons_succ]
                    refine wpAnyH_take (i := 4) (oi := ⟨some 45, _, _, _, _, _⟩) (v := ?_) rfl (by kernel_rfl) (by kernel_rfl) (by kernel_rfl) (fun _ _ _ h => h) (Or.inl ⟨by rfl, ?_⟩) (by assumption) ?_
                    rotate_left
                    · intro w hSw; (try dsimp only at hSw); go_simp <;> with_reducible rfl
                    try simp only [Act.put, List.setIfInBounds_toArray, List.set_cons_zero, List.set_cons_succ]
                    refine wpAnyH_take (i := 5) (oi := ⟨some 46, _, _, _, _, _⟩) (v := ?_) rfl (by kernel_rfl) (by kernel_rfl) (by kernel_rfl) (fun _ _ _ h => h) (Or.inl ⟨by rfl, ?_⟩) (by assumption) ?_
                    rotate_left
                    · intro w hSw; (try dsimp only at hSw); go_simp <;> with_reducible rfl
                    try simp only [Act.put, List.setIfInBounds_toArray, List.set_cons_zero, List.set_cons_succ]
                    refine wpAnyH_take (i := 6) (oi := ⟨some 47, _, _, _, _, _⟩) (v := ?_) rfl (by kernel_rfl) (by kernel_rfl) (by kernel_rfl) (fun _ _ _ h => h) (Or.inl ⟨by rfl, ?_⟩) (by assumption) ?_
                    rotate_left
                    · intro w hSw; (try dsimp only at hSw); go_simp <;> with_reducible rfl
                    try simp only [Act.put, List.setIfInBounds_toArray, List.set_cons_zero, List.set_cons_succ]
                    refine wpAnyH_take (i := 7) (oi := ⟨some 48, _, _, _, _, _⟩) (v := ?_) rfl (by kernel_rfl) (by kernel_rfl) (by kernel_rfl) (fun _ _ _ h => h) (Or.inl ⟨by rfl, ?_⟩) (by assumption) ?_
                    rotate_left
                    · intro w hSw; (try dsimp only at hSw); go_simp <;> with_reducible rfl
                    try simp only [Act.put, List.setIfInBounds_toArray, List.set_cons_zero, List.set_cons_succ]
                    refine wpAnyH_take (i := 8) (oi := ⟨some 49, _, _, _, _, _⟩) (v := ?_) rfl (by kernel_rfl) (by kernel_rfl) (by kernel_rfl) (fun _ _ _ h => h) (Or.inl ⟨by rfl, ?_⟩) (by assumption) ?_
                    rotate_left
                    · intro w hSw; (try dsimp only at hSw); go_simp <;> with_reducible rfl
                    try simp only [Act.put, List.setIfInBounds_toArray, List.set_cons_zero, List.set_cons_succ]
                    refine wpAnyH_take (i := 9) (oi := ⟨some 50, _, _, _, _, _⟩) (v := ?_) rfl (by kernel_rfl) (by kernel_rfl) (by kernel_rfl) (fun _ _ _ h => h) (Or.inl ⟨by rfl, ?_⟩) (by assumption) ?_
                    rotate_left
                    · intro w hSw; (try dsimp only at hSw); go_simp <;> with_reducible rfl
                    try simp only [Act.put, List.setIfInBounds_toArray, List.set_cons_zero, List.set_cons_succ]
                    refine wpAnyH_take (i := 10) (oi := ⟨some 51, _, _, _, _, _⟩) (v := ?_) rfl (by kernel_rfl) (by kernel_rfl) (by kernel_rfl) (fun _ _ _ h => h) (Or.inl ⟨by rfl, ?_⟩) (by assumption) ?_
                    rotate_left
                    · intro w hSw; (try dsimp only at hSw); go_simp <;> with_reducible rfl
                    try simp only [Act.put, List.setIfInBounds_toArray, List.set_cons_zero, List.set_cons_succ]
                    refine wpAnyH_take (i := 11) (oi := ⟨some 52, _, _, _, _, _⟩) (v := ?_) rfl (by kernel_rfl) (by kernel_rfl) (by kernel_rfl) (fun _ _ _ h => h) (Or.inl ⟨by rfl, ?_⟩) (by assumption) ?_
                    rotate_left
                    · intro w hSw; (try dsimp only at hSw); go_simp <;> with_reducible rfl
                    try simp only [Act.put, List.setIfInBounds_toArray, List.set_cons_zero, List.set_cons_succ]
                    refine wpAnyH_take (i := 12) (oi := ⟨some 53, _, _, _, _, _⟩) (v := ?_) rfl (by kernel_rfl) (by kernel_rfl) (by kernel_rfl) (fun _ _ _ h => h) (Or.inl ⟨by rfl, ?_⟩) (by assumption) ?_
                    rotate_left
                    · intro w hSw; (try dsimp only at hSw); go_simp <;> with_reducible rfl
                    try simp only [Act.put, List.setIfInBounds_toArray, List.set_cons_zero, List.set_cons_succ]
                    refine wpAnyH_take (i := 13) (oi := ⟨some 54, _, _, _, _, _⟩) (v := ?_) rfl (by kernel_rfl) (by kernel_rfl) (by kernel_rfl) (fun _ _ _ h => h) (Or.inl ⟨by rfl, ?_⟩) (by assumption) ?_
                    rotate_left
                    · intro w hSw; (try dsimp only at hSw); go_simp <;> with_reducible rfl
                    try simp only [Act.put, List.setIfInBounds_toArray, List.set_cons_zero, List.set_cons_succ]
                    refine wpAnyH_take (i := 14) (oi := ⟨some 55, _, _, _, _, _⟩) (v := ?_) rfl (by kernel_rfl) (by kernel_rfl) (by kernel_rfl) (fun _ _ _ h => h) (Or.inl ⟨by rfl, ?_⟩) (by assumption) ?_
                    rotate_left
                    · intro w hSw; (try dsimp only at hSw); go_simp <;> with_reducible rfl
                    try simp only [Act.put, List.setIfInBounds_toArray, List.set_cons_zero, List.set_cons_succ]
                    refine wpAnyH_take (i := 15) (oi := ⟨some 56, _, _, _, _, _⟩) (v := ?_) rfl (by kernel_rfl) (by kernel_rfl) (by kernel_rfl) (fun _ _ _ h => h) (Or.inl ⟨by rfl, ?_⟩) (by assumption) ?_
                    rotate_left
                    · intro w hSw; (try dsimp only at hSw); go_simp <;> with_reducible rfl
                    try simp only [Act.put, List.setIfInBounds_toArray, List.set_cons_zero, List.set_cons_succ]
                    refine wpAnyH_take (i := 16) (oi := ⟨some 57, _, _, _, _, _⟩) (v := ?_) rfl (by kernel_rfl) (by kernel_rfl) (by kernel_rfl) (fun _ _ _ h => h) (Or.inl ⟨by rfl, ?_⟩) (by assumption) ?_
                    rotate_left
                    · intro w hSw; (try dsimp only at hSw); go_simp <;> with_reducible rfl
                    try simp only [Act.put, List.setIfInBounds_toArray, List.set_cons_zero, List.set_cons_succ]
                    refine wpAnyH_take (i := 17) (oi := ⟨some 58, _, _, _, _, _⟩) (v := ?_) rfl (by kernel_rfl) (by kernel_rfl) (by kernel_rfl) (fun _ _ _ h => h) (Or.inl ⟨by rfl, ?_⟩) (by assumption) ?_
                    rotate_left
                    · intro w hSw; (try dsimp only at hSw); go_simp <;> with_reducible rfl
                    try simp only [Act.put, List.setIfInBounds_toArray, List.set_cons_zero, List.set_cons_succ]
                    refine wpAnyH_take (i := 18) (oi := ⟨some 59, _, _, _, _, _⟩) (v := ?_) rfl (by kernel_rfl) (by kernel_rfl) (by kernel_rfl) (fun _ _ _ h => h) (Or.inl ⟨by rfl, ?_⟩) (by assumption) ?_
                    rotate_left
                    · intro w hSw; (try dsimp only at hSw); go_simp <;> with_reducible rfl
                    try simp only [Act.put, List.setIfInBounds_toArray, List.set_cons_zero, List.set_cons_succ]
                    refine wpAnyH_take (i := 19) (oi := ⟨some 60, _, _, _, _, _⟩) (v := ?_) rfl (by kernel_rfl) (by kernel_rfl) (by kernel_rfl) (fun _ _ _ h => h) (Or.inl ⟨by rfl, ?_⟩) (by assumption) ?_
                    rotate_left
                    · intro w hSw; (try dsimp only at hSw); go_simp <;> with_reducible rfl
                    try simp only [Act.put, List.setIfInBounds_toArray, List.set_cons_zero, List.set_cons_succ]
                    refine wpAnyH_take (i := 20) (oi := ⟨some 61, _, _, _, _, _⟩) (v := ?_) rfl (by kernel_rfl) (by kernel_rfl) (by kernel_rfl) (fun _ _ _ h => h) (Or.inl ⟨by rfl, ?_⟩) (by assumption) ?_
                    rotate_left
                    · intro w hSw; (try dsimp only at hSw); go_simp <;> with_reducible rfl
                    try simp only [Act.put, List.setIfInBounds_toArray, List.set_cons_zero, List.set_cons_succ]
                    refine wpAnyH_take (i := 21) (oi := ⟨some 62, _, _, _, _, _⟩) (v := ?_) rfl (by kernel_rfl) (by kernel_rfl) (by kernel_rfl) (fun _ _ _ h => h) (Or.inl ⟨by rfl, ?_⟩) (by assumption) ?_
                    rotate_left
                    · intro w hSw; (try dsimp only at hSw); go_simp <;> with_reducible rfl
                    try simp only [Act.put, List.setIfInBounds_toArray, List.set_cons_zero, List.set_cons_succ]
                    refine wpAnyH_take (i := 22) (oi := ⟨some 63, _, _, _, _, _⟩) (v := ?_) rfl (by kernel_rfl) (by kernel_rfl) (by kernel_rfl) (fun _ _ _ h => h) (Or.inl ⟨by rfl, ?_⟩) (by assumption) ?_
                    rotate_left
                    · intro w hSw; (try dsimp only at hSw); go_simp <;> with_reducible rfl
                    try simp only [Act.put, List.setIfInBounds_toArray, List.set_cons_zero, List.set_cons_succ]
                    refine wpAnyH_take (i := 23) (oi := ⟨some 64, _, _, _, _, _⟩) (v := ?_) rfl (by kernel_rfl) (by kernel_rfl) (by kernel_rfl) (fun _ _ _ h => h) (Or.inl ⟨by rfl, ?_⟩) (by assumption) ?_
                    rotate_left
                    · intro w hSw; (try dsimp only at hSw); go_simp <;> with_reducible rfl
                    try simp only [Act.put, List.setIfInBounds_toArray, List.set_cons_zero, List.set_cons_succ]
                    refine wpAnyH_take (i := 24) (oi := ⟨some 65, _, _, _, _, _⟩) (v := ?_) rfl (by kernel_rfl) (by kernel_rfl) (by kernel_rfl) (fun _ _ _ h => h) (Or.inl ⟨by rfl, ?_⟩) (by assumption) ?_
                    rotate_left
                    · intro w hSw; (try dsimp only at hSw); go_simp <;> with_reducible rfl
                    try simp only [Act.put, List.setIfInBounds_toArray, List.set_cons_zero, List.set_cons_succ]
                    refine wpAnyH_take (i := 25) (oi := ⟨some 66, _, _, _, _, _⟩) (v := ?_) rfl (by kernel_rfl) (by kernel_rfl) (by kernel_rfl) (fun _ _ _ h => h) (Or.inl ⟨by rfl, ?_⟩) (by assumption) ?_
                    rotate_left
                    · intro w hSw; (try dsimp only at hSw); go_simp <;> with_reducible rfl
                    try simp only [Act.put, List.setIfInBounds_toArray, List.set_cons_zero, List.set_cons_succ]
                    refine wpAnyH_take (i := 26) (oi := ⟨some 67, _, _, _, _, _⟩) (v := ?_) rfl (by kernel_rfl) (by kernel_rfl) (by kernel_rfl) (fun _ _ _ h => h) (Or.inl ⟨by rfl, ?_⟩) (by assumption) ?_
                    rotate_left
                    · intro w hSw; (try dsimp only at hSw); go_simp <;> with_reducible rfl
                    try simp only [Act.put, List.setIfInBounds_toArray, List.set_cons_zero, List.set_cons_succ]
                    refine wpAnyH_take (i := 27) (oi := ⟨some 68, _, _, _, _, _⟩) (v := ?_) rfl (by kernel_rfl) (by kernel_rfl) (by kernel_rfl) (fun _ _ _ h => h) (Or.inl ⟨by rfl, ?_⟩) (by assumption) ?_
                    rotate_left
                    · intro w hSw; (try dsimp only at hSw); go_simp <;> with_reducible rfl
                    try simp only [Act.put, List.setIfInBounds_toArray, List.set_cons_zero, List.set_cons_succ]
                    refine wpAnyH_take (i := 28) (oi := ⟨some 69, _, _, _, _, _⟩) (v := ?_) rfl (by kernel_rfl) (by kernel_rfl) (by kernel_rfl) (fun _ _ _ h => h) (Or.inl ⟨by rfl, ?_⟩) (by assumption) ?_
                    rotate_left
                    · intro w hSw; (try dsimp only at hSw); go_simp <;> with_reducible rfl
                    try simp only [Act.put, List.setIfInBounds_toArray, List.set_cons_zero, List.set_cons_succ]
                    refine wpAnyH_take (i := 29) (oi := ⟨some 70, _, _, _, _, _⟩) (v := ?_) rfl (by kernel_rfl) (by kernel_rfl) (by kernel_rfl) (fun _ _ _ h => h) (Or.inl ⟨by rfl, ?_⟩) (by assumption) ?_
                    rotate_left
                    · intro w hSw; (try dsimp only at hSw); go_simp <;> with_reducible rfl
                    try simp only [Act.put, List.setIfInBounds_toArray, List.set_cons_zero, List.set_cons_succ]
                    refine wpAnyH_take (i := 30) (oi := ⟨some 71, _, _, _, _, _⟩) (v := ?_) rfl (by kernel_rfl) (by kernel_rfl) (by kernel_rfl) (fun _ _ _ h => h) (Or.inl ⟨by rfl, ?_⟩) (by assumption) ?_
                    rotate_left
                    · intro w hSw; (try dsimp only at hSw); go_simp <;> with_reducible rfl
                    try simp only [Act.put, List.setIfInBounds_toArray, List.set_cons_zero, List.set_cons_succ]
                    refine wpAnyH_take (i := 31) (oi := ⟨some 72, _, _, _, _, _⟩) (v := ?_) rfl (by kernel_rfl) (by kernel_rfl) (by kernel_rfl) (fun _ _ _ h => h) (Or.inl ⟨by rfl, ?_⟩) (by assumption) ?_
                    rotate_left
                    · intro w hSw; (try dsimp only at hSw); go_simp <;> with_reducible rfl
                    try simp only [Act.put, List.setIfInBounds_toArray, List.set_cons_zero, List.set_cons_succ]
                    refine wpAnyH_take (i := 32) (oi := ⟨some 73, _, _, _, _, _⟩) (v := ?_) rfl (by kernel_rfl) (by kernel_rfl) (by kernel_rfl) (fun _ _ _ h => h) (Or.inl ⟨by rfl, ?_⟩) (by assumption) ?_
                    rotate_left
                    · intro w hSw; (try dsimp only at hSw); go_simp <;> with_reducible rfl
                    try simp only [Act.put, List.setIfInBounds_toArray, List.set_cons_zero, List.set_cons_succ]
                    refine wpAnyH_take (i := 33) (oi := ⟨some 74, _, _, _, _, _⟩) (v := ?_) rfl (by kernel_rfl) (by kernel_rfl) (by kernel_rfl) (fun _ _ _ h => h) (Or.inl ⟨by rfl, ?_⟩) (by assumption) ?_
                    rotate_left
                    · intro w hSw; (try dsimp only at hSw); go_simp <;> with_reducible rfl
                    try simp only [Act.put, List.setIfInBounds_toArray, List.set_cons_zero, List.set_cons_succ]
                    refine wpAnyH_take (i := 34) (oi := ⟨some 75, _, _, _, _, _⟩) (v := ?_) rfl (by kernel_rfl) (by kernel_rfl) (by kernel_rfl) (fun _ _ _ h => h) (Or.inl ⟨by rfl, ?_⟩) (by assumption) ?_
                    rotate_left
                    · intro w hSw; (try dsimp only at hSw); go_simp <;> with_reducible rfl
                    try simp only [Act.put, List.setIfInBounds_toArray, List.set_cons_zero, List.set_cons_succ]
                    refine wpAnyH_take (i := 35) (oi := ⟨some 76, _, _, _, _, _⟩) (v := ?_) rfl (by kernel_rfl) (by kernel_rfl) (by kernel_rfl) (fun _ _ _ h => h) (Or.inl ⟨by rfl, ?_⟩) (by assumption) ?_
                    rotate_left
                    · intro w hSw; (try dsimp only at hSw); go_simp <;> with_reducible rfl
                    try simp only [Act.put, List.setIfInBounds_toArray, List.set_cons_zero, List.set_cons_succ]
                    refine wpAnyH_done (by kernel_rfl) ?_ _
                    skip
                    go_wp2_with (fail)
                    refine ⟨?_, ?_⟩
                    · first | exact ⟨j + 1, by omega, by go_num, hstp.out, zB2⟩ | ((repeat apply Exists.intro); refine ⟨?_, rfl⟩; exact ⟨j + 1, by omega, by go_num, hstp.out, zB2⟩)
                    · simp [RowKit.intOf]; omega
                · rw [decide_eq_false m1, Bool.false_and] at hstp
                  replace hstp := hid hstp
                  go_upto_region 9 with (fail)
                  refine wp_region_held_drew (S := (fun W => W.cell? ⟨b, o + k * 35 + 32, none⟩ = some (.int .i64 pi) ∧ W.cell? ⟨b, o + k * 35 + 33, none⟩ = some (.int .i64 bi) ∧ W.cell? ⟨b, o + j * 35 + 32, none⟩ = some (.int .i64 pj) ∧ W.cell? ⟨b, o + j * 35 + 33, none⟩ = some (.int .i64 bj))) (by kernel_rfl) hst (fun hHeld => ?_)
                  refine wpAnyH_take (i := 0) (oi := ⟨some 41, _, _, _, _, _⟩) (v := ?_) rfl (by kernel_rfl) (by kernel_rfl) (by kernel_rfl) (fun _ _ _ h => h) (Or.inl ⟨by rfl, ?_⟩) (by assumption) ?_
                  rotate_left
                  · intro w hSw; (try dsimp only at hSw); go_simp <;> with_reducible rfl
                  try simp only [Act.put, List.setIfInBounds_toArray, List.set_cons_zero, List.set_cons_succ]
                  refine wpAnyH_take (i := 1) (oi := ⟨some 42, _, _, _, _, _⟩) (v := ?_) rfl (by kernel_rfl) (by kernel_rfl) (by kernel_rfl) (fun _ _ _ h => h) (Or.inl ⟨by rfl, ?_⟩) (by assumption) ?_
                  rotate_left
                  · intro w hSw; (try dsimp only at hSw); go_simp <;> with_reducible rfl
                  try simp only [Act.put, List.setIfInBounds_toArray, List.set_cons_zero, List.set_cons_succ]
                  refine wpAnyH_take (i := 2) (oi := ⟨some 43, _, _, _, _, _⟩) (v := ?_) rfl (by kernel_rfl) (by kernel_rfl) (by kernel_rfl) (fun _ _ _ h => h) (Or.inl ⟨by rfl, ?_⟩) (by assumption) ?_
                  rotate_left
                  · intro w hSw; (try dsimp only at hSw); go_simp <;> with_reducible rfl
                  try simp only [Act.put, List.setIfInBounds_toArray, List.set_cons_zero, List.set_cons_succ]
                  refine wpAnyH_take (i := 3) (oi := ⟨some 44, _, _, _, _, _⟩) (v := ?_) rfl (by kernel_rfl) (by kernel_rfl) (by kernel_rfl) (fun _ _ _ h => h) (Or.inl ⟨by rfl, ?_⟩) (by assumption) ?_
                  rotate_left
                  · intro w hSw; (try dsimp only at hSw); go_simp <;> with_reducible rfl
                  try simp only [Act.put, List.setIfInBounds_toArray, List.set_cons_zero, List.set_cons_succ]
                  refine wpAnyH_take (i := 4) (oi := ⟨some 45, _, _, _, _, _⟩) (v := ?_) rfl (by kernel_rfl) (by kernel_rfl) (by kernel_rfl) (fun _ _ _ h => h) (Or.inl ⟨by rfl, ?_⟩) (by assumption) ?_
                  rotate_left
                  · intro w hSw; (try dsimp only at hSw); go_simp <;> with_reducible rfl
                  try simp only [Act.put, List.setIfInBounds_toArray, List.set_cons_zero, List.set_cons_succ]
                  refine wpAnyH_take (i := 5) (oi := ⟨some 46, _, _, _, _, _⟩) (v := ?_) rfl (by kernel_rfl) (by kernel_rfl) (by kernel_rfl) (fun _ _ _ h => h) (Or.inl ⟨by rfl, ?_⟩) (by assumption) ?_
                  rotate_left
                  · intro w hSw; (try dsimp only at hSw); go_simp <;> with_reducible rfl
                  try simp only [Act.put, List.setIfInBounds_toArray, List.set_cons_zero, List.set_cons_succ]
                  refine wpAnyH_take (i := 6) (oi := ⟨some 47, _, _, _, _, _⟩) (v := ?_) rfl (by kernel_rfl) (by kernel_rfl) (by kernel_rfl) (fun _ _ _ h => h) (Or.inl ⟨by rfl, ?_⟩) (by assumption) ?_
                  rotate_left
                  · intro w hSw; (try dsimp only at hSw); go_simp <;> with_reducible rfl
                  try simp only [Act.put, List.setIfInBounds_toArray, List.set_cons_zero, List.set_cons_succ]
                  refine wpAnyH_take (i := 7) (oi := ⟨some 48, _, _, _, _, _⟩) (v := ?_) rfl (by kernel_rfl) (by kernel_rfl) (by kernel_rfl) (fun _ _ _ h => h) (Or.inl ⟨by rfl, ?_⟩) (by assumption) ?_
                  rotate_left
                  · intro w hSw; (try dsimp only at hSw); go_simp <;> with_reducible rfl
                  try simp only [Act.put, List.setIfInBounds_toArray, List.set_cons_zero, List.set_cons_succ]
                  refine wpAnyH_take (i := 8) (oi := ⟨some 49, _, _, _, _, _⟩) (v := ?_) rfl (by kernel_rfl) (by kernel_rfl) (by kernel_rfl) (fun _ _ _ h => h) (Or.inl ⟨by rfl, ?_⟩) (by assumption) ?_
                  rotate_left
                  · intro w hSw; (try dsimp only at hSw); go_simp <;> with_reducible rfl
                  try simp only [Act.put, List.setIfInBounds_toArray, List.set_cons_zero, List.set_cons_succ]
                  refine wpAnyH_take (i := 9) (oi := ⟨some 50, _, _, _, _, _⟩) (v := ?_) rfl (by kernel_rfl) (by kernel_rfl) (by kernel_rfl) (fun _ _ _ h => h) (Or.inl ⟨by rfl, ?_⟩) (by assumption) ?_
                  rotate_left
                  · intro w hSw; (try dsimp only at hSw); go_simp <;> with_reducible rfl
                  try simp only [Act.put, List.setIfInBounds_toArray, List.set_cons_zero, List.set_cons_succ]
                  refine wpAnyH_take (i := 10) (oi := ⟨some 51, _, _, _, _, _⟩) (v := ?_) rfl (by kernel_rfl) (by kernel_rfl) (by kernel_rfl) (fun _ _ _ h => h) (Or.inl ⟨by rfl, ?_⟩) (by assumption) ?_
                  rotate_left
                  · intro w hSw; (try dsimp only at hSw); go_simp <;> with_reducible rfl
                  try simp only [Act.put, List.setIfInBounds_toArray, List.set_cons_zero, List.set_cons_succ]
                  refine wpAnyH_take (i := 11) (oi := ⟨some 52, _, _, _, _, _⟩) (v := ?_) rfl (by kernel_rfl) (by kernel_rfl) (by kernel_rfl) (fun _ _ _ h => h) (Or.inl ⟨by rfl, ?_⟩) (by assumption) ?_
                  rotate_left
                  · intro w hSw; (try dsimp only at hSw); go_simp <;> with_reducible rfl
                  try simp only [Act.put, List.setIfInBounds_toArray, List.set_cons_zero, List.set_cons_succ]
                  refine wpAnyH_take (i := 12) (oi := ⟨some 53, _, _, _, _, _⟩) (v := ?_) rfl (by kernel_rfl) (by kernel_rfl) (by kernel_rfl) (fun _ _ _ h => h) (Or.inl ⟨by rfl, ?_⟩) (by assumption) ?_
                  rotate_left
                  · intro w hSw; (try dsimp only at hSw); go_simp <;> with_reducible rfl
                  try simp only [Act.put, List.setIfInBounds_toArray, List.set_cons_zero, List.set_cons_succ]
                  refine wpAnyH_take (i := 13) (oi := ⟨some 54, _, _, _, _, _⟩) (v := ?_) rfl (by kernel_rfl) (by kernel_rfl) (by kernel_rfl) (fun _ _ _ h => h) (Or.inl ⟨by rfl, ?_⟩) (by assumption) ?_
                  rotate_left
                  · intro w hSw; (try dsimp only at hSw); go_simp <;> with_reducible rfl
                  try simp only [Act.put, List.setIfInBounds_toArray, List.set_cons_zero, List.set_cons_succ]
                  refine wpAnyH_take (i := 14) (oi := ⟨some 55, _, _, _, _, _⟩) (v := ?_) rfl (by kernel_rfl) (by kernel_rfl) (by kernel_rfl) (fun _ _ _ h => h) (Or.inl ⟨by rfl, ?_⟩) (by assumption) ?_
                  rotate_left
                  · intro w hSw; (try dsimp only at hSw); go_simp <;> with_reducible rfl
                  try simp only [Act.put, List.setIfInBounds_toArray, List.set_cons_zero, List.set_cons_succ]
                  refine wpAnyH_take (i := 15) (oi := ⟨some 56, _, _, _, _, _⟩) (v := ?_) rfl (by kernel_rfl) (by kernel_rfl) (by kernel_rfl) (fun _ _ _ h => h) (Or.inl ⟨by rfl, ?_⟩) (by assumption) ?_
                  rotate_left
                  · intro w hSw; (try dsimp only at hSw); go_simp <;> with_reducible rfl
                  try simp only [Act.put, List.setIfInBounds_toArray, List.set_cons_zero, List.set_cons_succ]
                  refine wpAnyH_take (i := 16) (oi := ⟨some 57, _, _, _, _, _⟩) (v := ?_) rfl (by kernel_rfl) (by kernel_rfl) (by kernel_rfl) (fun _ _ _ h => h) (Or.inl ⟨by rfl, ?_⟩) (by assumption) ?_
                  rotate_left
                  · intro w hSw; (try dsimp only at hSw); go_simp <;> with_reducible rfl
                  try simp only [Act.put, List.setIfInBounds_toArray, List.set_cons_zero, List.set_cons_succ]
                  refine wpAnyH_take (i := 17) (oi := ⟨some 58, _, _, _, _, _⟩) (v := ?_) rfl (by kernel_rfl) (by kernel_rfl) (by kernel_rfl) (fun _ _ _ h => h) (Or.inl ⟨by rfl, ?_⟩) (by assumption) ?_
                  rotate_left
                  · intro w hSw; (try dsimp only at hSw); go_simp <;> with_reducible rfl
                  try simp only [Act.put, List.setIfInBounds_toArray, List.set_cons_zero, List.set_cons_succ]
                  refine wpAnyH_take (i := 18) (oi := ⟨some 59, _, _, _, _, _⟩) rfl (by kernel_rfl) (by kernel_rfl) (by kernel_rfl) (fun _ _ _ h => h) (Or.inr ⟨by rfl, rfl⟩) (by assumption) ?_
                  try simp only [Act.put, List.setIfInBounds_toArray, List.set_cons_zero, List.set_cons_succ]
                  refine wpAnyH_take (i := 19) (oi := ⟨some 60, _, _, _, _, _⟩) rfl (by kernel_rfl) (by kernel_rfl) (by kernel_rfl) (fun _ _ _ h => h) (Or.inr ⟨by rfl, rfl⟩) (by assumption) ?_
                  try simp only [Act.put, List.setIfInBounds_toArray, List.set_cons_zero, List.set_cons_succ]
                  refine wpAnyH_take (i := 20) (oi := ⟨some 61, _, _, _, _, _⟩) rfl (by kernel_rfl) (by kernel_rfl) (by kernel_rfl) (fun _ _ _ h => h) (Or.inr ⟨by rfl, rfl⟩) (by assumption) ?_
                  try simp only [Act.put, List.setIfInBounds_toArray, List.set_cons_zero, List.set_cons_succ]
                  refine wpAnyH_take (i := 21) (oi := ⟨some 62, _, _, _, _, _⟩) rfl (by kernel_rfl) (by kernel_rfl) (by kernel_rfl) (fun _ _ _ h => h) (Or.inr ⟨by rfl, rfl⟩) (by assumption) ?_
                  try simp only [Act.put, List.setIfInBounds_toArray, List.set_cons_zero, List.set_cons_succ]
                  refine wpAnyH_take (i := 22) (oi := ⟨some 63, _, _, _, _, _⟩) rfl (by kernel_rfl) (by kernel_rfl) (by kernel_rfl) (fun _ _ _ h => h) (Or.inr ⟨by rfl, rfl⟩) (by assumption) ?_
                  try simp only [Act.put, List.setIfInBounds_toArray, List.set_cons_zero, List.set_cons_succ]
                  refine wpAnyH_take (i := 23) (oi := ⟨some 64, _, _, _, _, _⟩) rfl (by kernel_rfl) (by kernel_rfl) (by kernel_rfl) (fun _ _ _ h => h) (Or.inr ⟨by rfl, rfl⟩) (by assumption) ?_
                  try simp only [Act.put, List.setIfInBounds_toArray, List.set_cons_zero, List.set_cons_succ]
                  refine wpAnyH_take (i := 24) (oi := ⟨some 65, _, _, _, _, _⟩) rfl (by kernel_rfl) (by kernel_rfl) (by kernel_rfl) (fun _ _ _ h => h) (Or.inr ⟨by rfl, rfl⟩) (by assumption) ?_
                  try simp only [Act.put, List.setIfInBounds_toArray, List.set_cons_zero, List.set_cons_succ]
                  refine wpAnyH_take (i := 25) (oi := ⟨some 66, _, _, _, _, _⟩) rfl (by kernel_rfl) (by kernel_rfl) (by kernel_rfl) (fun _ _ _ h => h) (Or.inr ⟨by rfl, rfl⟩) (by assumption) ?_
                  try simp only [Act.put, List.setIfInBounds_toArray, List.set_cons_zero, List.set_cons_succ]
                  refine wpAnyH_take (i := 26) (oi := ⟨some 67, _, _, _, _, _⟩) rfl (by kernel_rfl) (by kernel_rfl) (by kernel_rfl) (fun _ _ _ h => h) (Or.inr ⟨by rfl, rfl⟩) (by assumption) ?_
                  try simp only [Act.put, List.setIfInBounds_toArray, List.set_cons_zero, List.set_cons_succ]
                  refine wpAnyH_take (i := 27) (oi := ⟨some 68, _, _, _, _, _⟩) rfl (by kernel_rfl) (by kernel_rfl) (by kernel_rfl) (fun _ _ _ h => h) (Or.inr ⟨by rfl, rfl⟩) (by assumption) ?_
                  try simp only [Act.put, List.setIfInBounds_toArray, List.set_cons_zero, List.set_cons_succ]
                  refine wpAnyH_take (i := 28) (oi := ⟨some 69, _, _, _, _, _⟩) rfl (by kernel_rfl) (by kernel_rfl) (by kernel_rfl) (fun _ _ _ h => h) (Or.inr ⟨by rfl, rfl⟩) (by assumption) ?_
                  try simp only [Act.put, List.setIfInBounds_toArray, List.set_cons_zero, List.set_cons_succ]
                  refine wpAnyH_take (i := 29) (oi := ⟨some 70, _, _, _, _, _⟩) rfl (by kernel_rfl) (by kernel_rfl) (by kernel_rfl) (fun _ _ _ h => h) (Or.inr ⟨by rfl, rfl⟩) (by assumption) ?_
                  try simp only [Act.put, List.setIfInBounds_toArray, List.set_cons_zero, List.set_cons_succ]
                  refine wpAnyH_take (i := 30) (oi := ⟨some 71, _, _, _, _, _⟩) rfl (by kernel_rfl) (by kernel_rfl) (by kernel_rfl) (fun _ _ _ h => h) (Or.inr ⟨by rfl, rfl⟩) (by assumption) ?_
                  try simp only [Act.put, List.setIfInBounds_toArray, List.set_cons_zero, List.set_cons_succ]
                  refine wpAnyH_take (i := 31) (oi := ⟨some 72, _, _, _, _, _⟩) rfl (by kernel_rfl) (by kernel_rfl) (by kernel_rfl) (fun _ _ _ h => h) (Or.inr ⟨by rfl, rfl⟩) (by assumption) ?_
                  try simp only [Act.put, List.setIfInBounds_toArray, List.set_cons_zero, List.set_cons_succ]
                  refine wpAnyH_take (i := 32) (oi := ⟨some 73, _, _, _, _, _⟩) rfl (by kernel_rfl) (by kernel_rfl) (by kernel_rfl) (fun _ _ _ h => h) (Or.inr ⟨by rfl, rfl⟩) (by assumption) ?_
                  try simp only [Act.put, List.setIfInBounds_toArray, List.set_cons_zero, List.set_cons_succ]
                  refine wpAnyH_take (i := 33) (oi := ⟨some 74, _, _, _, _, _⟩) rfl (by kernel_rfl) (by kernel_rfl) (by kernel_rfl) (fun _ _ _ h => h) (Or.inr ⟨by rfl, rfl⟩) (by assumption) ?_
                  try simp only [Act.put, List.setIfInBounds_toArray, List.set_cons_zero, List.set_cons_succ]
                  refine wpAnyH_take (i := 34) (oi := ⟨some 75, _, _, _, _, _⟩) rfl (by kernel_rfl) (by kernel_rfl) (by kernel_rfl) (fun _ _ _ h => h) (Or.inr ⟨by rfl, rfl⟩) (by assumption) ?_
                  try simp only [Act.put, List.setIfInBounds_toArray, List.set_cons_zero, List.set_cons_succ]
                  refine wpAnyH_take (i := 35) (oi := ⟨some 76, _, _, _, _, _⟩) (v := ?_) rfl (by kernel_rfl) (by kernel_rfl) (by kernel_rfl) (fun _ _ _ h => h) (Or.inl ⟨by rfl, ?_⟩) (by assumption) ?_
                  rotate_left
                  · intro w hSw; (try dsimp only at hSw); go_simp <;> with_reducible rfl
                  try simp only [Act.put, List.setIfInBounds_toArray, List.set_cons_zero, List.set_cons_succ]
                  refine wpAnyH_done (by kernel_rfl) ?_ _
                  skip
                  go_wp2_with (fail)
                  refine ⟨?_, ?_⟩
                  · first | exact ⟨j + 1, by omega, by go_num, hstp.out, zB2⟩ | ((repeat apply Exists.intro); refine ⟨?_, rfl⟩; exact ⟨j + 1, by omega, by go_num, hstp.out, zB2⟩)
                  · simp [RowKit.intOf]; omega
              · obtain rfl : j = k := by omega
                have hst2 := hid (hok.out hap)
                clear hap
                go_wp2_with (fail)
                refine ⟨?_, ?_⟩
                · first | exact ⟨j + 1, by omega, by go_num, hst2.out, zB⟩ | ((repeat apply Exists.intro); refine ⟨?_, rfl⟩; exact ⟨j + 1, by omega, by go_num, hst2.out, zB⟩)
                · simp [RowKit.intOf]; omega
    · obtain rfl : k = L := by omega
      obtain rfl : rb = true := by rw [← hrb2]; exact hacc
      clear hrb2 hacc
      go_wp2_with (fail)
      go_ret
      exact ⟨rfl, qB⟩
end Go.Proofs.Ytomgjapjeckokaa
namespace Go.Proofs.Ytomgjapjeckokaa
open Go.RowKit Go.Shelf Go.Lib

theorem overE_comm (a b : Ent) : overE a b = overE b a := by unfold overE; exact Bool.and_comm _ _
theorem overE_congr {a b c d : Ent} (h1 : a.place = c.place) (h2 : a.blocks = c.blocks) (h3 : b.place = d.place) (h4 : b.blocks = d.blocks) : overE a b = overE c d := by
  unfold overE; rw [h1, h2, h3, h4]
theorem rGood_iff (l : List Ent) : rGoodL l = true ↔ (∀ i, i < l.length → okAt l i = true) ∧ ∀ i j, i < l.length → j < l.length → i ≠ j → overE (l.getD i entD) (l.getD j entD) = false := by
  unfold rGoodL rGoodTo apartTo
  simp only [List.all_eq_true, List.mem_range, Bool.and_eq_true]
  constructor
  · intro h
    refine ⟨fun i hi => (h i hi).1, fun i j hi hj hne => ?_⟩
    by_cases hlt : i < j
    · have h9 := (h j hj).2 i hlt
      simpa using h9
    · have h9 := (h i hi).2 j (by omega)
      rw [overE_comm]
      simpa using h9
  · intro h i hi
    refine ⟨h.1 i hi, fun j hj => ?_⟩
    rw [h.2 j i (by omega) hi (by omega)]; rfl
/-- entries i and j turn their places -/
def turnS (l : List Ent) (i j : Nat) (ei ej : Ent) : List Ent := (l.set i ⟨ei.key, ej.place, ej.blocks, ei.refs⟩).set j ⟨ej.key, ei.place, ei.blocks, ej.refs⟩
theorem turn_len (l : List Ent) (i j : Nat) (ei ej : Ent) : (turnS l i j ei ej).length = l.length := by unfold turnS; simp
theorem turn_get {l : List Ent} {i j : Nat} {ei ej : Ent} (hi : l[i]? = some ei) (hj : l[j]? = some ej) (x : Nat) :
    (turnS l i j ei ej)[x]? = if x = j then some ⟨ej.key, ei.place, ei.blocks, ej.refs⟩ else if x = i then some ⟨ei.key, ej.place, ej.blocks, ei.refs⟩ else l[x]? := by
  have h1 := (List.getElem?_eq_some_iff.1 hi).1
  have h2 := (List.getElem?_eq_some_iff.1 hj).1
  unfold turnS
  rw [List.getElem?_set]
  by_cases e : j = x
  · rw [if_pos e, if_pos (by rw [List.length_set]; omega), if_pos e.symm]
  · rw [if_neg e, if_neg (fun h => e h.symm), List.getElem?_set]
    by_cases e2 : i = x
    · rw [if_pos e2, if_pos (by omega), if_pos e2.symm]
    · rw [if_neg e2, if_neg (fun h => e2 h.symm)]
theorem keyAt_set {l m : List Ent} (h : ∀ x : Nat, (m[x]?).map (·.key) = (l[x]?).map (·.key)) (x : Nat) : keyAt m x = keyAt l x := by
  have h9 := h x
  unfold keyAt
  cases h1 : m[x]? with
  | none =>
    cases h2 : l[x]? with
    | none => rfl
    | some b => rw [h1, h2] at h9; cases h9
  | some a =>
    cases h2 : l[x]? with
    | none => rw [h1, h2] at h9; cases h9
    | some b => rw [h1, h2] at h9; simpa using h9
theorem oneE_put {e f : Ent} (he : oneE e = true) (hf : oneE f = true) : oneE ⟨e.key, f.place, f.blocks, e.refs⟩ = true := by
  obtain ⟨-, -, -, -, -, a6, a7⟩ := oneE_is he
  obtain ⟨b1, b2, b3, b4, b5, -, -⟩ := oneE_is hf
  unfold oneE
  simp only [Bool.and_eq_true, decide_eq_true_eq]
  refine ⟨⟨⟨⟨⟨⟨?_, ?_⟩, ?_⟩, ?_⟩, ?_⟩, ?_⟩, ?_⟩ <;> omega
theorem okAt_one {l : List Ent} {i : Nat} {e : Ent} (h : okAt l i = true) (he : l[i]? = some e) : oneE e = true := by
  unfold okAt oneAt at h
  rw [he, Bool.and_eq_true] at h
  exact h.1
theorem turn_good {l : List Ent} {i j : Nat} {ei ej : Ent} (hi : l[i]? = some ei) (hj : l[j]? = some ej) (h : rGoodL l = true) : rGoodL (turnS l i j ei ej) = true := by
  obtain ⟨h1, h2⟩ := (rGood_iff l).1 h
  have li := (List.getElem?_eq_some_iff.1 hi).1
  have lj := (List.getElem?_eq_some_iff.1 hj).1
  have oi := okAt_one (h1 i li) hi
  have oj := okAt_one (h1 j lj) hj
  have hg := turn_get hi hj
  have hkey : ∀ x, keyAt (turnS l i j ei ej) x = keyAt l x := keyAt_set fun x => by
    rw [hg]
    by_cases e : x = j
    · rw [if_pos e, e, hj]; rfl
    · rw [if_neg e]
      by_cases e2 : x = i
      · rw [if_pos e2, e2, hi]; rfl
      · rw [if_neg e2]
  have hone : ∀ x, x < l.length → oneAt (turnS l i j ei ej) x = true := fun x hx => by
    unfold oneAt
    rw [hg]
    by_cases e : x = j
    · rw [if_pos e]; exact oneE_put oj oi
    · rw [if_neg e]
      by_cases e2 : x = i
      · rw [if_pos e2]; exact oneE_put oi oj
      · rw [if_neg e2]
        have h9 := h1 x hx
        unfold okAt oneAt at h9
        rw [Bool.and_eq_true] at h9
        exact h9.1
  obtain ⟨s, hs⟩ : ∃ s : Nat → Nat, ∀ x, s x = if x = j then i else if x = i then j else x := ⟨_, fun _ => rfl⟩
  have hpl : ∀ x, x < l.length → ((turnS l i j ei ej).getD x entD).place = (l.getD (s x) entD).place ∧ ((turnS l i j ei ej).getD x entD).blocks = (l.getD (s x) entD).blocks := fun x hx => by
    rw [List.getD_eq_getElem?_getD, List.getD_eq_getElem?_getD, hg, hs]
    by_cases e : x = j
    · rw [if_pos e, if_pos e, hi]; exact ⟨rfl, rfl⟩
    · rw [if_neg e, if_neg e]
      by_cases e2 : x = i
      · rw [if_pos e2, if_pos e2, hj]; exact ⟨rfl, rfl⟩
      · rw [if_neg e2, if_neg e2]; exact ⟨rfl, rfl⟩
  have hsl : ∀ x, x < l.length → s x < l.length := fun x hx => by
    rw [hs]
    split
    · exact li
    · split
      · exact lj
      · exact hx
  have hinj : ∀ x y, x ≠ y → s x ≠ s y := fun x y hne => by
    rw [hs, hs]
    by_cases a1 : x = j
    · rw [if_pos a1]
      by_cases b1 : y = j
      · omega
      · rw [if_neg b1]
        by_cases b2 : y = i
        · rw [if_pos b2]; omega
        · rw [if_neg b2]; omega
    · rw [if_neg a1]
      by_cases a2 : x = i
      · rw [if_pos a2]
        by_cases b1 : y = j
        · rw [if_pos b1]; omega
        · rw [if_neg b1]
          by_cases b2 : y = i
          · omega
          · rw [if_neg b2]; omega
      · rw [if_neg a2]
        by_cases b1 : y = j
        · rw [if_pos b1]; omega
        · rw [if_neg b1]
          by_cases b2 : y = i
          · rw [if_pos b2]; omega
          · rw [if_neg b2]; exact hne
  refine (rGood_iff _).2 ⟨fun x hx => ?_, fun x y hx hy hne => ?_⟩
  · rw [turn_len] at hx
    have h9 := h1 x hx
    unfold okAt at h9 ⊢
    rw [Bool.and_eq_true] at h9
    rw [hone x hx, hkey, hkey, Bool.true_and]
    exact h9.2
  · rw [turn_len] at hx hy
    rw [overE_congr (hpl x hx).1 (hpl x hx).2 (hpl y hy).1 (hpl y hy).2]
    exact h2 _ _ (hsl x hx) (hsl y hy) (hinj x y hne)
/-- entry i gets entry j's place -/
def overS (l : List Ent) (i : Nat) (ei : Ent) (p : Int) : List Ent := l.set i ⟨ei.key, p, ei.blocks, ei.refs⟩
theorem over_same {l : List Ent} {i : Nat} {ei : Ent} (hi : l[i]? = some ei) : overS l i ei ei.place = l := by
  unfold overS
  have h1 := List.getElem?_eq_some_iff.1 hi
  rw [show (⟨ei.key, ei.place, ei.blocks, ei.refs⟩ : Ent) = l[i]'h1.1 from h1.2.symm]
  exact List.set_getElem_self _
theorem over_bad {l : List Ent} {i j : Nat} {ei ej : Ent} (hi : l[i]? = some ei) (hj : l[j]? = some ej) (hne : i ≠ j) (h : rGoodL l = true) : rGoodL (overS l i ei ej.place) = false := by
  have li := (List.getElem?_eq_some_iff.1 hi).1
  have lj := (List.getElem?_eq_some_iff.1 hj).1
  obtain ⟨h1, -⟩ := (rGood_iff l).1 h
  obtain ⟨-, -, a3, -, -, -, -⟩ := oneE_is (okAt_one (h1 i li) hi)
  obtain ⟨-, -, b3, -, -, -, -⟩ := oneE_is (okAt_one (h1 j lj) hj)
  cases hc : rGoodL (overS l i ei ej.place) with
  | false => rfl
  | true =>
    exfalso
    obtain ⟨-, h2⟩ := (rGood_iff _).1 hc
    have h9 := h2 i j (by unfold overS; simpa using li) (by unfold overS; simpa using lj) hne
    have g1 : (overS l i ei ej.place).getD i entD = ⟨ei.key, ej.place, ei.blocks, ei.refs⟩ := by
      unfold overS
      rw [List.getD_eq_getElem?_getD, List.getElem?_set, if_pos rfl, if_pos li]; rfl
    have g2 : (overS l i ei ej.place).getD j entD = ej := by
      unfold overS
      rw [List.getD_eq_getElem?_getD, List.getElem?_set, if_neg hne, hj]; rfl
    rw [g1, g2] at h9
    unfold overE at h9
    dsimp only at h9
    rw [decide_eq_true (by omega), decide_eq_true (by omega)] at h9
    cases h9
end Go.Proofs.Ytomgjapjeckokaa
namespace Go.Proofs.Ytomgjapjeckokaa
open Go.RowKit Go.Shelf Go.Lib

theorem ownsRow_pos {w : World} {base n : Nat} {e : TypeId} {size : Nat} {v : Value} {xs : List Value} (h : w.ownsRow base e size v n xs) (hn : 0 < n) : ∃ g c, v = .slice (some ⟨g, 0, none⟩) n c ∧ base ≤ g := by
  rcases h.2 with ⟨-, h'⟩ | ⟨g, c, cur, h', hb, -⟩
  · omega
  · exact ⟨g, c, h', hb⟩
theorem wrI {n m : Int} (h : n = m) (h1 : -9223372036854775808 ≤ m) (h2 : m ≤ 9223372036854775807) : IntKind.i64.wrap n = m := by
  subst h; rw [IntKind.wrap_i64]; omega
theorem few : ∀ (n : Nat) (xs : List Int) (lo : Int), xs.Nodup → (∀ x ∈ xs, lo ≤ x ∧ x < lo + (n : Int)) → xs.length ≤ n
  | 0, [], _, _, _ => Nat.le_refl _
  | 0, x :: xs, lo, _, h => by
    have := h x (List.mem_cons_self ..)
    omega
  | n + 1, xs, lo, hn, h => by
    have h1 := few n (xs.erase (lo + (n : Int))) lo (hn.erase _) (fun x hx => by
      obtain ⟨h2, h3⟩ := (hn.mem_erase_iff).1 hx
      have := h x h3
      omega)
    by_cases hm : lo + (n : Int) ∈ xs
    · rw [List.length_erase_of_mem hm] at h1; omega
    · rw [List.erase_of_not_mem hm] at h1; omega
theorem good_few {l : List Ent} (h : rGoodL l = true) : l.length ≤ 126 := by
  obtain ⟨h1, h2⟩ := (rGood_iff l).1 h
  have ho : ∀ i (hi : i < l.length), oneE l[i] = true := fun i hi => okAt_one (h1 i hi) (List.getElem?_eq_getElem hi)
  have hn : (l.map (·.place)).Nodup := by
    show List.Pairwise _ _
    rw [List.pairwise_map, List.pairwise_iff_getElem]
    intro i j hi hj hij he
    have h3 := h2 i j hi hj (by omega)
    have o1 := oneE_is (ho i hi)
    have o2 := oneE_is (ho j hj)
    rw [List.getD_eq_getElem?_getD, List.getD_eq_getElem?_getD, List.getElem?_eq_getElem hi, List.getElem?_eq_getElem hj] at h3
    unfold overE at h3
    dsimp only [Option.getD_some] at h3
    rw [decide_eq_true (by omega), decide_eq_true (by omega)] at h3
    cases h3
  have h9 := few 126 (l.map (·.place)) 2 hn (fun x hx => by
    obtain ⟨e, he, rfl⟩ := List.mem_map.1 hx
    obtain ⟨i, hi, rfl⟩ := List.getElem_of_mem he
    have := oneE_is (ho i hi)
    omega)
  simpa using h9
theorem okAt_take {l : List Ent} {n i : Nat} (hi : i < n) : okAt (l.take n) i = okAt l i := by
  have g : ∀ j, j < n → (l.take n)[j]? = l[j]? := fun j hj => by rw [List.getElem?_take, if_pos hj]
  unfold okAt oneAt keyAt
  rw [g i hi, g (i - 1) (by omega)]
theorem good_take {l : List Ent} (h : rGoodL l = true) (n : Nat) : rGoodL (l.take n) = true := by
  obtain ⟨h1, h2⟩ := (rGood_iff l).1 h
  have hl : (l.take n).length = min n l.length := List.length_take
  refine (rGood_iff _).2 ⟨fun i hi => ?_, fun i j hi hj hne => ?_⟩
  · rw [hl] at hi
    rw [okAt_take (by omega)]
    exact h1 i (by omega)
  · rw [hl] at hi hj
    rw [List.getD_eq_getElem?_getD, List.getD_eq_getElem?_getD, List.getElem?_take, List.getElem?_take, if_pos (by omega), if_pos (by omega), ← List.getD_eq_getElem?_getD, ← List.getD_eq_getElem?_getD]
    exact h2 i j (by omega) (by omega) hne
theorem good_int {l : List Ent} (h : rGoodL l = true) (hk : ∀ e ∈ l, e.key.length = 32) : ∀ e ∈ l, intOkE e := fun e he => by
  obtain ⟨x, hx⟩ := List.getElem?_of_mem he
  obtain ⟨a1, a2, a3, a4, -, -, -⟩ := oneE_is (okAt_one (((rGood_iff l).1 h).1 x (List.getElem?_eq_some_iff.1 hx).1) hx)
  exact ⟨hk e he, by omega, by omega, by omega, by omega⟩
theorem size_nLeaf {n : Nat} (h : 0 < n) : sizeS n = ((nLeaf n + 1 : Nat) : Int) := by
  unfold sizeS nLeaf
  rw [if_neg (by omega)]
  omega
theorem pack_is {l : List Ent} {places : List Int} (hg : rGoodL l = true) (hn : l ≠ []) (hp : places.length = nLeaf l.length + 1) (hr : rootOk (places.take (places.length - 1)) = true) :
    packS l places = (leafsS l (nLeaf l.length) ++ [sealB (rootB (places.take (nLeaf l.length)))], 0) := by
  have hl : 0 < l.length := List.length_pos_iff.2 hn
  unfold packS
  rw [goodI_eq, if_pos hg, if_neg (by rw [size_nLeaf hl, hp]; simp), if_neg hn, if_pos hr, show places.length - 1 = nLeaf l.length by omega]
theorem leafB_len {l : List Ent} (hk : ∀ e ∈ l, e.key.length = 32) (j : Nat) : (encB (chunkAt l j)).length ≤ 124 := by
  have h1 : (chunkAt l j).length ≤ 3 := by unfold chunkAt; rw [List.length_take]; omega
  unfold encB
  rw [List.length_cons, List.length_cons, entsB_len (fun e he => hk e (chunk_mem he))]
  omega
theorem leafs_len (l : List Ent) (m : Nat) : (leafsS l m).length = m := by unfold leafsS; simp
theorem leafs_get (l : List Ent) {m j : Nat} (h : j < m) : (leafsS l m)[j]? = some (sealB (encB (chunkAt l j))) := by
  unfold leafsS
  rw [List.getElem?_map, List.getElem?_range h]; rfl
theorem unp_leafs {l : List Ent} (hg : rGoodL l = true) (hk : ∀ e ∈ l, e.key.length = 32) {bs : List (List UInt8)} (hb : bs.length ≤ nLeaf l.length) (hbs : ∀ j, j < bs.length → bs[j]? = some (sealB (encB (chunkAt l j)))) :
    ∀ n, n ≤ bs.length → unpTo bs n = some (l.take (3 * n))
  | 0, _ => by rw [unpTo]; rfl
  | n + 1, hn => by
    have h3 : 3 * n < l.length := by unfold nLeaf at hb; omega
    rw [unpTo, unp_leafs hg hk hb hbs n (by omega), Option.bind_some, List.getD_eq_getElem?_getD, hbs n (by omega), Option.getD_some, decS_back (fun e he => hk e (chunk_mem he)) (chunk_good (by rw [goodI_eq]; exact hg) h3), Option.bind_some, if_neg, show 3 * (n + 1) = 3 * n + 3 by omega, List.take_add]
    · rfl
    · rintro ⟨h4, h5⟩
      rw [chunk_len h3] at h4
      unfold nLeaf at hb
      omega
theorem unpS_leafs {l : List Ent} (hg : rGoodL l = true) (hk : ∀ e ∈ l, e.key.length = 32) {bs : List (List UInt8)} (hb : bs.length ≤ nLeaf l.length) (hbs : ∀ j, j < bs.length → bs[j]? = some (sealB (encB (chunkAt l j)))) :
    unpS bs = some (l.take (3 * bs.length)) := by
  unfold unpS
  rw [unp_leafs hg hk hb hbs _ (Nat.le_refl _), Option.bind_some, goodI_eq, if_pos (good_take hg _)]
theorem rootB_len (p : List Int) : (rootB p).length = p.length + 2 := by unfold rootB; simp
theorem root_inj {p q : List Int} (hl : p.length = q.length) (hp : rootOk p = true) (hq : rootOk q = true) (h : sealB (rootB p) = sealB (rootB q)) : p = q := by
  have hin : ∀ r : List Int, rootOk r = true → ∀ x ∈ r, 2 ≤ x ∧ x < 128 := fun r hr x hx => by
    unfold rootOk at hr
    simp only [Bool.and_eq_true, List.all_eq_true, List.mem_range] at hr
    obtain ⟨i, hi, rfl⟩ := List.getElem_of_mem hx
    have h9 := hr.2 i hi
    unfold plcOk at h9
    rw [List.getElem?_eq_getElem hi] at h9
    simp only [Bool.and_eq_true, decide_eq_true_eq] at h9
    omega
  have h1 : rootB p = rootB q := by
    unfold sealB at h
    rw [List.append_assoc, List.append_assoc] at h
    exact (List.append_inj h (by rw [rootB_len, rootB_len, hl])).1
  have h2 : p.map b8 = q.map b8 := by
    unfold rootB at h1
    simpa [hl] using h1
  refine List.ext_getElem hl fun i h3 h4 => ?_
  have h5 : b8 p[i] = b8 q[i] := by
    have := congrArg (fun z => z[i]?) h2
    simpa [List.getElem?_eq_getElem h3, List.getElem?_eq_getElem h4] using this
  obtain ⟨a1, a2⟩ := hin p hp _ (List.getElem_mem h3)
  obtain ⟨c1, c2⟩ := hin q hq _ (List.getElem_mem h4)
  have e1 := b8_nat (n := p[i]) (by omega) (by omega)
  have e2 := b8_nat (n := q[i]) (by omega) (by omega)
  rw [← e1, ← e2, h5]
/-- k places, from n on, round -/
def plcS (n : Nat) (k : Nat) : List Int := (List.range k).map fun i : Nat => 2 + ((n : Int) + (i : Int)) % 126
theorem plc_len (n k : Nat) : (plcS n k).length = k := by unfold plcS; simp
theorem plc_get (n : Nat) {k i : Nat} (h : i < k) : (plcS n k)[i]? = some (2 + ((n : Int) + (i : Int)) % 126) := by
  unfold plcS
  rw [List.getElem?_map, List.getElem?_range h]; rfl
theorem plc_take (n : Nat) {k m : Nat} (h : m ≤ k) : (plcS n k).take m = plcS n m := by
  refine List.ext_getElem? fun i => ?_
  rw [List.getElem?_take]
  by_cases hi : i < m
  · rw [if_pos hi, plc_get n hi, plc_get n (by omega)]
  · rw [if_neg hi, List.getElem?_eq_none (by rw [plc_len]; omega)]
theorem plc_snoc (n k : Nat) : plcS n (k + 1) = plcS n k ++ [2 + ((n : Int) + (k : Int)) % 126] := by
  unfold plcS
  rw [List.range_succ, List.map_append]; rfl
theorem plc_step (x i : Nat) (hx : x < 256) (hi : i < 43) : ∃ y P : Int, IntKind.i64.wrap (x : Int) = (x : Int) ∧ wrap64 (x : Int) = (x : Int) ∧ IntKind.i64.wrap ((x : Int) + (i : Int)) = y ∧ y.tmod 126 = y % 126 ∧
    IntKind.i64.wrap (y % 126) = y % 126 ∧ IntKind.i64.wrap (2 + y % 126) = P ∧ 2 + ((x : Int) + (i : Int)) % 126 = P := by
  refine ⟨(x : Int) + (i : Int), 2 + ((x : Int) + (i : Int)) % 126, ?_, ?_, ?_, Int.tmod_eq_emod_of_nonneg (by omega), ?_, ?_, rfl⟩
  · rw [IntKind.wrap_i64]; omega
  · unfold wrap64; omega
  · rw [IntKind.wrap_i64]; omega
  · rw [IntKind.wrap_i64]; omega
  · rw [IntKind.wrap_i64]; omega
theorem plc_root (n : Nat) {m : Nat} (h1 : 1 ≤ m) (h2 : m ≤ 100) : rootOk (plcS n m) = true := by
  unfold rootOk
  rw [plc_len]
  simp only [Bool.and_eq_true, decide_eq_true_eq, List.all_eq_true, List.mem_range]
  refine ⟨⟨h1, h2⟩, fun i hi => ?_⟩
  unfold plcOk
  rw [plc_get n hi]
  simp only [Bool.and_eq_true, decide_eq_true_eq, Bool.not_eq_true', decide_eq_false_iff_not]
  refine ⟨⟨by omega, by omega⟩, fun hc => ?_⟩
  rw [plc_take n (by omega)] at hc
  obtain ⟨j, hj, he⟩ := List.getElem_of_mem hc
  have hj' : j < i := by rw [plc_len] at hj; exact hj
  have := plc_get n hj'
  rw [List.getElem?_eq_getElem hj, he] at this
  have := Option.some.inj this
  omega
/-- all that the law asks of a packed index -/
theorem back_pack {l : List Ent} (hg : rGoodL l = true) (hn : l ≠ []) (n : Nat) : packS l (plcS n (nLeaf l.length + 1)) = (leafsS l (nLeaf l.length) ++ [sealB (rootB (plcS n (nLeaf l.length)))], 0) := by
  have hl : 0 < l.length := List.length_pos_iff.2 hn
  have hf := good_few hg
  have h := pack_is (places := plcS n (nLeaf l.length + 1)) hg hn (plc_len _ _) (by rw [plc_len, Nat.add_sub_cancel, plc_take n (by omega)]; exact plc_root n (by unfold nLeaf; omega) (by unfold nLeaf; omega))
  rw [plc_take n (by omega)] at h
  exact h
theorem leafs_back {l : List Ent} (hg : rGoodL l = true) (hk : ∀ e ∈ l, e.key.length = 32) {m : Nat} (hm : m ≤ nLeaf l.length) (x : List UInt8) : unpS ((leafsS l (nLeaf l.length) ++ [x]).take m) = some (l.take (3 * m)) := by
  have hl : ((leafsS l (nLeaf l.length) ++ [x]).take m).length = m := by rw [List.length_take, List.length_append, leafs_len]; simp; omega
  have h := unpS_leafs hg hk (bs := (leafsS l (nLeaf l.length) ++ [x]).take m) (by rw [hl]; exact hm) (fun j hj => by
    rw [hl] at hj
    rw [List.getElem?_take, if_pos hj, List.getElem?_append_left (by rw [leafs_len]; omega), leafs_get l (by omega)])
  rw [hl] at h
  exact h
end Go.Proofs.Ytomgjapjeckokaa
namespace Go.Proofs.Ytomgjapjeckokaa
open Go.RowKit Go.Shelf Go.Lib

def TwoP (W : World) (B : Nat) (pv : Value) (ps : List Int) (qv : Value) (qs : List Int) : Prop :=
  W.ownsRow B 3 1 pv ps.length (ps.flatMap encI) ∧ W.ownsRow B 3 1 qv qs.length (qs.flatMap encI) ∧ ∀ j, pv.ownBlock = some j → qv.ownBlock ≠ some j
/-- a block of one number that is nobody's -/
def CellP (W : World) (B : Nat) (pv qv : Value) (b : Nat) (x : Int) : Prop :=
  W.heap[b]? = some (.cells #[.int .i64 x] 3 (0, 0)) ∧ B ≤ b ∧ pv.ownBlock ≠ some b ∧ qv.ownBlock ≠ some b
variable {W W' : World} {B : Nat} {pv qv : Value} {ps qs : List Int}
theorem own_ltP {n : Nat} {v : Value} {xs : List Value} {e : TypeId} (h : W.ownsRow B e 1 v n xs) {j : Nat} (hj : v.ownBlock = some j) : j < W.heap.size ∧ B ≤ j := by
  rcases h.2 with ⟨rfl, -⟩ | ⟨g, cap, cur, rfl, hb, hg, -⟩
  · cases hj
  · simp [Value.ownBlock] at hj
    subst hj
    exact ⟨(Array.getElem?_eq_some_iff.1 hg).1, hb⟩
theorem own_other {n : Nat} {v : Value} {xs : List Value} {e : TypeId} {row : Option Nat} (h : W.ownsRow B e 1 v n xs) (hg : W.grownBy W' row) (hr : ∀ j, row = some j → v.ownBlock ≠ some j) : W'.ownsRow B e 1 v n xs := by
  refine ⟨h.1, ?_⟩
  rcases h.2 with h2 | ⟨g, cap, cur, rfl, hb, hgg, h3⟩
  · exact .inl h2
  · exact .inr ⟨g, cap, cur, rfl, hb, (hg.block g (Array.getElem?_eq_some_iff.1 hgg).1 (fun e => hr g e.symm rfl)).trans hgg, h3⟩
theorem TwoP.symm (h : TwoP W B pv ps qv qs) : TwoP W B qv qs pv ps := ⟨h.2.1, h.1, fun j hj e => h.2.2 j e hj⟩
theorem twoP_nil (W : World) (B : Nat) : TwoP W B (.slice none 0 0) [] (.slice none 0 0) [] := ⟨World.ownsRow_nil _ _ _ _, World.ownsRow_nil _ _ _ _, fun j hj => by cases hj⟩
theorem TwoP.base (h : TwoP W B pv ps qv qs) {j : Nat} (hj : pv.ownBlock = some j) : B ≤ j := (own_ltP h.1 hj).2
theorem TwoP.alloc (h : TwoP W B pv ps qv qs) {o : Obj} (e : W.alloc o = W') : TwoP W' B pv ps qv qs := by
  subst e
  exact ⟨h.1.alloc _, h.2.1.alloc _, h.2.2⟩
theorem TwoP.drew (h : TwoP W B pv ps qv qs) : TwoP W.drew B pv ps qv qs := h
theorem CellP.symm {b : Nat} {x : Int} (h : CellP W B pv qv b x) : CellP W B qv pv b x := ⟨h.1, h.2.1, h.2.2.2, h.2.2.1⟩
theorem CellP.alloc {b : Nat} {x : Int} (h : CellP W B pv qv b x) {o : Obj} (e : W.alloc o = W') : CellP W' B pv qv b x := by
  subst e
  exact ⟨(Kept.alloc 0 W o).same _ _ h.1 (.inl rfl), h.2⟩
theorem cellP_new (h : TwoP W B pv ps qv qs) {b : Nat} {x : Int} (hb : B ≤ W.heap.size) (eb : W.heap.size = b) (e : W.alloc (.cells #[.int .i64 x] 3) = W') : CellP W' B pv qv b x := by
  subst eb e
  refine ⟨World.alloc_heap_new W _, hb, fun e => ?_, fun e => ?_⟩
  · exact Nat.lt_irrefl _ (own_ltP h.1 e).1
  · exact Nat.lt_irrefl _ (own_ltP h.2.1 e).1
theorem CellP.news {b : Nat} {x : Int} (h : CellP W B pv qv b x) : ∀ j u, ([.int .i64 x] : List Value)[j]? = some u → W.cell? ((⟨b, 0, none⟩ : Addr).add j) = some u := fun j u hj => by
  obtain ⟨hlt, hu⟩ := List.getElem?_eq_some_iff.1 hj
  have hj0 : j = 0 := by simpa using hlt
  subst hj0
  rw [Addr.add_mid]
  exact cell_blk h.1 (by simpa using hj)
theorem TwoP.app {x : Int} {g c n m : Nat} (h : TwoP W B pv ps qv qs) (ho : W'.ownsRow B 3 1 (.slice (some ⟨g, 0, none⟩) n c) m (ps.flatMap encI ++ [.int .i64 x])) (hm : m = (ps ++ [x]).length) (hg : W.grownBy W' pv.ownBlock) (ha : pv.ownBlock = some g ∨ g = W.heap.size) :
    TwoP W' B (.slice (some ⟨g, 0, none⟩) n c) (ps ++ [x]) qv qs := by
  subst hm
  refine ⟨?_, own_other h.2.1 hg (fun j hj => h.2.2 j hj), fun j hj e => ?_⟩
  · rw [List.flatMap_append]; exact ho
  · simp [Value.ownBlock] at hj
    subst hj
    rcases ha with ha | ha
    · exact h.2.2 _ ha e
    · have := (own_ltP h.2.1 e).1
      omega
theorem CellP.app {x : Int} {b g n c : Nat} (h : CellP W B pv qv b x) (hg : W.grownBy W' pv.ownBlock) (ha : pv.ownBlock = some g ∨ g = W.heap.size) : CellP W' B (.slice (some ⟨g, 0, none⟩) n c) qv b x := by
  obtain ⟨h1, h2, h3, h4⟩ := h
  have hlt := (Array.getElem?_eq_some_iff.1 h1).1
  refine ⟨(hg.block b hlt (fun e => h3 e.symm)).trans h1, h2, fun e => ?_, h4⟩
  simp [Value.ownBlock] at e
  subst e
  rcases ha with ha | ha
  · exact h3 ha
  · omega
theorem infoI_parts : ∃ i0, Try.prog.info? 3 = some i0 ∧ i0.zero = some (.int .i64 0) ∧ i0.size = 1 ∧ i0.bytes = 8 := by
  have h : (Try.prog.info? 3).map (fun i => (i.zero, i.size, i.bytes)) = some (some (.int .i64 0), 1, 8) := by kernel_rfl
  obtain ⟨i0, h1, h2⟩ := Option.map_eq_some_iff.1 h
  simp only [Prod.mk.injEq] at h2
  exact ⟨i0, h1, h2.1, h2.2.1, h2.2.2⟩
/-- one number's slice is made -/
theorem wp_build_int {o : Oper} {a : Act} {w : World} {K : Act → World → Prop} {Q : Exit → Act → World → Prop} (x : Operand) (n : Int) (ho : o.op = .buildSlice 23 1 #[(0, x)]) (hx : a.eval x = .int .i64 n)
    (h : ∀ b w', w.heap.size = b → w.alloc (.cells #[.int .i64 n] 3) = w' → K (a.put o.dst (.slice (some ⟨b, 0, none⟩) 1 1)) w') : o.wp Try.prog a w K Q := by
  obtain ⟨ie, hie, hz, hs, -⟩ := infoI_parts
  refine wp_buildSlice 23 3 1 _ ho #[.int .i64 n] ie (.int .i64 0) Try.underlying23 hie hz (by omega) (by omega) ?_ (h _ _ rfl rfl)
  have h2 := Great.fill_whole (s := ie.size) (by omega) [Value.int .i64 n] ((Array.range (1 * ie.size)).map ((Value.int .i64 0).cells[· % (Value.int .i64 0).cells.size]!)) (fun v hv => by obtain rfl := List.mem_singleton.1 hv; rw [hs]; rfl) (by simp)
  simp only [List.map_toArray, List.map_cons, List.map_nil, hx]
  simpa [Value.cells] using h2
/-- a part of a slice, in a plain region -/
theorem wpList_slice {P : Program} {ops : Array Oper} {rest : List Oper} {op : Oper} {a : Act} {w : World} {Q : Exit → Act → World → Prop} (hgd : op.guard = none) (t : TypeId) (x : Operand) (lo hi : Option Operand) (ho : op.op = .slice t x lo hi none) (v : Value)
    (h : ∀ w, (Instr.sliceAt t (a.eval x) (lo.map a.eval) (hi.map a.eval) none).run P w = .ok v w) (hk : wpList P ops Q rest (a.put op.dst v) w) : wpList P ops Q (op :: rest) a w :=
  wpList_yield hgd v (by
    unfold execOp
    simp only [ho, Sem.run_bind, Option.map_none, h w, Result.andThen_ok]; rfl) hk
end Go.Proofs.Ytomgjapjeckokaa
namespace Go.Proofs.Ytomgjapjeckokaa
open Go.RowKit Go.Shelf Go.Lib

section
variable {P : Program}
theorem run_slice_lit (W : World) (t e : TypeId) (K : Nat) (hu : P.underlying t = some (.slice e)) (hK : (P.info? e).map (·.size) = some K) (a : Option Addr) (L c : Nat) (lo hi : Option Value) (l h : Nat)
    (hb : (Instr.sliceBounds true L c lo hi none).run P W = .ok (l, h, c) W) : (Instr.sliceAt t (.slice a L c) lo hi none).run P W = .ok (.slice (if c = l then a else a.map (·.add (l * K))) (h - l) (c - l)) W := by
  obtain ⟨i, hi0, hi1⟩ := Option.map_eq_some_iff.1 hK
  have he : P.elem t = e := by simp [Program.elem, hu]
  rw [run_sliceAt_slice _ t _ _ _ _ (by rw [he]; exact hu)]
  simp [Instr.slice, run_underlying hu, hb, sizeOf, typeInfo, hi0, hi1]
theorem slice_take {α : Type} {enc : α → List Value} (t e : TypeId) (K : Nat) (hu : P.underlying t = some (.slice e)) (hK : (P.info? e).map (·.size) = some K) {v : Value} {l : List α} {k : Nat} (hk : k ≤ l.length) {W0 : World} (h0 : Sl W0 K enc v l) :
    ∃ s, (∀ W, (Instr.sliceAt t v none (some (.int .i64 k)) none).run P W = .ok s W) ∧ (∀ W, Sl W K enc v l → Sl W K enc s (l.take k)) ∧ ∃ p c, s = .slice p k c := by
  obtain ⟨a, c, rfl, hc⟩ : ∃ a c, v = .slice a l.length c ∧ l.length ≤ c := by
    rcases h0 with ⟨rfl, rfl⟩ | ⟨a, c, rfl, h1, -⟩
    · exact ⟨none, 0, rfl, Nat.le_refl _⟩
    · exact ⟨some a, c, rfl, h1⟩
  refine ⟨.slice a k c, fun W => ?_, fun W h => ?_, a, c, rfl⟩
  · have hb : (Instr.sliceBounds true l.length c none (some (.int .i64 (k : Int))) none).run P W = .ok (0, k, c) W := by
      have h9 : (k : Int) ≤ (c : Int) := by omega
      simp [Instr.sliceBounds, run_sliceBound _ _ _ _ _ (show (0 : Int) ≤ (k : Int) by omega) h9]
    rw [run_slice_lit W t e K hu hK a _ c _ _ 0 k hb]
    have : a.map (fun x => x.add 0) = a := by
      cases a with
      | none => rfl
      | some x => rw [Option.map_some]; unfold Addr.add; rw [if_pos rfl]
    split <;> simp [this]
  · have hlk : (l.take k).length = k := by simp; omega
    rcases h with ⟨h, rfl⟩ | ⟨a', cap, h, h1, h2, h3, h4⟩
    · cases h
      simp at hk
      subst hk
      exact .inl ⟨rfl, rfl⟩
    · simp only [Value.slice.injEq] at h
      obtain ⟨rfl, -, rfl⟩ := h
      refine .inr ⟨a', c, by rw [hlk], by rw [hlk]; omega, h2, fun hne => h3 (by rintro rfl; simp at hne), fun i x hx => h4 i x ?_⟩
      rw [List.getElem?_take] at hx
      split at hx
      · exact hx
      · cases hx
theorem slice_drop {α : Type} {enc : α → List Value} (t e : TypeId) (K : Nat) (hu : P.underlying t = some (.slice e)) (hK : (P.info? e).map (·.size) = some K) {v : Value} {l : List α} {k : Nat} (hk : k ≤ l.length) {W0 : World} (h0 : Sl W0 K enc v l) :
    ∃ s, (∀ W, (Instr.sliceAt t v (some (.int .i64 k)) none none).run P W = .ok s W) ∧ (∀ W, Sl W K enc v l → Sl W K enc s (l.drop k)) ∧ ∃ p c, s = .slice p (l.length - k) c := by
  obtain ⟨a, c, rfl, hc⟩ : ∃ a c, v = .slice a l.length c ∧ l.length ≤ c := by
    rcases h0 with ⟨rfl, rfl⟩ | ⟨a, c, rfl, h1, -⟩
    · exact ⟨none, 0, rfl, Nat.le_refl _⟩
    · exact ⟨some a, c, rfl, h1⟩
  refine ⟨.slice (if c = k then a else a.map (·.add (k * K))) (l.length - k) (c - k), fun W => ?_, fun W h => ?_, _, _, rfl⟩
  · refine run_slice_lit W t e K hu hK a _ c _ _ k l.length ?_
    have h9 : (k : Int) ≤ (l.length : Int) := by omega
    simp [Instr.sliceBounds, run_sliceBound _ _ _ _ _ (show (0 : Int) ≤ (k : Int) by omega) h9]
  · have hlk : (l.drop k).length = l.length - k := by simp
    rcases h with ⟨h, rfl⟩ | ⟨a', cap, h, h1, h2, h3, h4⟩
    · cases h
      simp at hk
      subst hk
      exact .inl ⟨rfl, rfl⟩
    · simp only [Value.slice.injEq] at h
      obtain ⟨rfl, -, rfl⟩ := h
      by_cases e1 : c = k
      · rw [if_pos e1]
        have hd : l.drop k = [] := List.drop_eq_nil_of_le (by omega)
        rw [hd]
        exact .inr ⟨a', c - k, by rw [show l.length - k = 0 by omega]; rfl, by simp, by omega, fun h => absurd rfl h, fun i x hx => by simp at hx⟩
      · rw [if_neg e1]
        by_cases e2 : k = 0
        · subst e2
          rw [Nat.zero_mul]
          simp only [Option.map_some, Addr.add, if_true, List.drop_zero, Nat.sub_zero]
          exact .inr ⟨a', c, rfl, h1, h2, h3, h4⟩
        · refine .inr ⟨a'.add (k * K), c - k, by rw [hlk]; rfl, by rw [hlk]; omega, by omega, fun hne => ?_, fun i x hx => ?_⟩
          · have h5 := h3 (by rintro rfl; simp at hne)
            unfold Addr.add
            split
            · exact h5
            · rfl
          · rw [List.getElem?_drop] at hx
            have h5 := h4 _ _ hx
            have h6 : (a'.add (k * K)).block = a'.block ∧ (a'.add (k * K)).off = a'.off + k * K := by
              unfold Addr.add
              split
              · rename_i h7; exact ⟨rfl, by omega⟩
              · exact ⟨rfl, rfl⟩
            rw [h6.1, h6.2]
            rwa [show a'.off + k * K + i * K = a'.off + (k + i) * K by rw [Nat.add_mul]; omega]
theorem yieldsIf_slice {ops : Array Oper} {S : World → Prop} {op : Oper} {a : Act} (hw : Region.wanted op (yielded ops a.tmps) = true) (t : TypeId) (x : Operand) (lo hi : Option Operand) (ho : op.op = .slice t x lo hi none) (v : Value)
    (h : ∀ w, (Instr.sliceAt t (a.eval x) (lo.map a.eval) (hi.map a.eval) none).run P w = .ok v w) : YieldsIf P ops S op v a :=
  .inl ⟨hw, fun w _ => by
    unfold execOp
    simp only [ho, Sem.run_bind, Option.map_none, h w, Result.andThen_ok]; rfl⟩
end

theorem posL_lt {l : List Ent} {key : List UInt8} {t : Nat} (h : t < posL l key) : lessS (keyAt l t) key = true := by
  have h1 := posL_le l key
  have h2 := List.not_of_lt_findIdx (xs := l) (p := fun e => !lessS e.key key) h
  rw [keyAt_of (List.getElem?_eq_getElem (by omega))]
  simpa using h2
theorem posL_ge {l : List Ent} {key : List UInt8} (h : posL l key < l.length) : lessS (keyAt l (posL l key)) key = false := by
  have h' : List.findIdx (fun e : Ent => !lessS e.key key) l < l.length := h
  have h2 : (!lessS (l[posL l key]'h).key key) = true := List.findIdx_getElem (xs := l) (p := fun e => !lessS e.key key) (w := h')
  rw [keyAt_of (List.getElem?_eq_getElem h)]
  simpa using h2
theorem keyAt_eq {l m : List Ent} {i j : Nat} (h : l[i]? = m[j]?) : keyAt l i = keyAt m j := by unfold keyAt; rw [h]
theorem ins_len (l : List Ent) (x : Ent) : (insS l x).length = l.length + 1 := by
  have := posL_le l x.key
  unfold insS; simp; omega
theorem ins_get (l : List Ent) (x : Ent) (i : Nat) : (insS l x)[i]? = if i < posL l x.key then l[i]? else if i = posL l x.key then some x else l[i - 1]? := by
  have hp := posL_le l x.key
  unfold insS
  by_cases h1 : i < posL l x.key
  · rw [if_pos h1, List.append_assoc, List.getElem?_append_left (by simp; omega), List.getElem?_take_of_lt h1]
  · rw [if_neg h1]
    by_cases h2 : i = posL l x.key
    · rw [if_pos h2, List.append_assoc, List.getElem?_append_right (by simp; omega), List.length_take, Nat.min_eq_left hp, h2, Nat.sub_self]; rfl
    · rw [if_neg h2, List.getElem?_append_right (by simp; omega), List.getElem?_drop, List.length_append, List.length_take, Nat.min_eq_left hp, List.length_singleton]
      congr 1; omega
theorem ins_take (l : List Ent) (x : Ent) : (insS l x).take (posL l x.key) = l.take (posL l x.key) := by
  unfold insS
  rw [List.append_assoc]
  exact List.take_left' (by rw [List.length_take, Nat.min_eq_left (posL_le l x.key)])
theorem ins_drop (l : List Ent) (x : Ent) : (insS l x).drop (posL l x.key + 1) = l.drop (posL l x.key) := by
  unfold insS
  exact List.drop_left' (by rw [List.length_append, List.length_take, Nat.min_eq_left (posL_le l x.key)]; rfl)
theorem ins_key {l : List Ent} {x : Ent} (hl : ∀ e ∈ l, e.key.length = 32) (hx : x.key.length = 32) : ∀ e ∈ insS l x, e.key.length = 32 := fun e he => by
  unfold insS at he
  rcases List.mem_append.1 he with he | he
  · rcases List.mem_append.1 he with he | he
    · exact hl e (List.mem_of_mem_take he)
    · obtain rfl := List.mem_singleton.1 he; exact hx
  · exact hl e (List.mem_of_mem_drop he)
theorem ins_rises {l : List Ent} {x : Ent} (hr : risesL l = true) (hf : foundL l x.key = false) : risesL (insS l x) = true := by
  refine rises_all fun i hi => ?_
  rw [ins_len] at hi
  have hp := posL_le l x.key
  obtain ⟨k, hk⟩ : ∃ k, posL l x.key = k := ⟨_, rfl⟩
  have hg := ins_get l x
  rw [hk] at hg hp
  have hlt : ∀ t, t < k → lessS (keyAt l t) x.key = true := fun t ht => posL_lt (by rw [hk]; exact ht)
  by_cases h1 : i + 1 < k
  · rw [keyAt_eq (m := l) (j := i) (by rw [hg, if_pos (by omega)]), keyAt_eq (l := insS l x) (m := l) (j := i + 1) (by rw [hg, if_pos h1])]
    exact rises_step hr (by omega)
  · by_cases h2 : i + 1 = k
    · rw [keyAt_eq (m := l) (j := i) (by rw [hg, if_pos (by omega)]), keyAt_of (l := insS l x) (i := i + 1) (by rw [hg, if_neg (by omega), if_pos h2])]
      exact hlt i (by omega)
    · by_cases h3 : i = k
      · subst h3
        have hil : i < l.length := by omega
        rw [keyAt_of (l := insS l x) (i := i) (by rw [hg, if_neg (by omega), if_pos rfl]), keyAt_eq (l := insS l x) (m := l) (j := i) (by rw [hg, if_neg (by omega), if_neg (by omega), Nat.add_sub_cancel])]
        have h4 : lessS (keyAt l i) x.key = false := by have := posL_ge (l := l) (key := x.key) (by rw [hk]; exact hil); rwa [hk] at this
        cases h5 : lessS x.key (keyAt l i) with
        | true => rfl
        | false =>
          have h6 := lessS_total h4 h5
          rw [foundL_is, hk, decide_eq_true hil, decide_eq_true h6] at hf
          cases hf
      · rw [keyAt_eq (l := insS l x) (m := l) (i := i) (j := i - 1) (by rw [hg, if_neg (by omega), if_neg h3]), keyAt_eq (l := insS l x) (m := l) (i := i + 1) (j := i) (by rw [hg, if_neg (by omega), if_neg (by omega), Nat.add_sub_cancel])]
        have := rises_step hr (i := i - 1) (by omega)
        rwa [show i - 1 + 1 = i by omega] at this
theorem ins_pos (l : List Ent) (x : Ent) : posL (insS l x) x.key = posL l x.key := by
  have hp := posL_le l x.key
  refine posL_first (by rw [ins_len]; omega) (fun t ht => ?_) (fun _ => ?_)
  · rw [keyAt_eq (m := l) (j := t) (by rw [ins_get, if_pos ht])]
    exact posL_lt ht
  · rw [keyAt_of (l := insS l x) (by rw [ins_get, if_neg (by omega), if_pos rfl])]
    exact lessS_irrefl _
theorem ins_found (l : List Ent) (x : Ent) : foundL (insS l x) x.key = true := by
  have hp := posL_le l x.key
  rw [foundL_is, ins_pos, ins_len, decide_eq_true (by omega), keyAt_of (l := insS l x) (by rw [ins_get, if_neg (by omega), if_pos rfl]), decide_eq_true rfl]
  rfl
theorem rem_ins (l : List Ent) (x : Ent) : remS (insS l x) x.key = l := by
  unfold remS
  rw [ins_pos, ins_take, ins_drop, List.take_append_drop]
theorem rem_take (l : List Ent) (key : List UInt8) : (remS l key).take (posL l key) = l.take (posL l key) := by
  unfold remS
  exact List.take_left' (by rw [List.length_take, Nat.min_eq_left (posL_le l key)])
theorem rem_drop (l : List Ent) (key : List UInt8) : (remS l key).drop (posL l key) = l.drop (posL l key + 1) := by
  unfold remS
  exact List.drop_left' (by rw [List.length_take, Nat.min_eq_left (posL_le l key)])
theorem rem_len {l : List Ent} {key : List UInt8} (h : foundL l key = true) : (remS l key).length = l.length - 1 ∧ posL l key < l.length := by
  rw [foundL_is] at h
  simp only [Bool.and_eq_true, decide_eq_true_eq] at h
  refine ⟨?_, h.1⟩
  unfold remS
  have := h.1
  simp; omega
theorem rem_key {l : List Ent} {key : List UInt8} (hl : ∀ e ∈ l, e.key.length = 32) : ∀ e ∈ remS l key, e.key.length = 32 := fun e he => by
  unfold remS at he
  rcases List.mem_append.1 he with he | he
  · exact hl e (List.mem_of_mem_take he)
  · exact hl e (List.mem_of_mem_drop he)
end Go.Proofs.Ytomgjapjeckokaa
namespace Go.Proofs.Ytomgjapjeckokaa
open Go.RowKit

theorem take_succ_eq {α : Type} [DecidableEq α] {a b : List α} {k : Nat} (ha : k < a.length) (hb : k < b.length) :
    a.take (k + 1) = b.take (k + 1) ↔ a.take k = b.take k ∧ a[k] = b[k] := by
  rw [List.take_succ_eq_append_getElem ha, List.take_succ_eq_append_getElem hb]
  constructor
  · intro h
    have := List.append_inj h (by simp; omega)
    exact ⟨this.1, by simpa using this.2⟩
  · rintro ⟨h1, h2⟩; rw [h1, h2]

set_option maxHeartbeats 400000 in
theorem Ints_any (w : World) (va vb : Value) (a b : List Int) (ha : Sl w 1 encI va a) (hb : Sl w 1 encI vb b) :
    Calls Try.prog 20 #[va, vb] w fun e w' => e = .returned (.bool (decide (a = b))) ∧ ∃ n, w' = w.drewN n := by
  by_cases hl : a.length = b.length
  · by_cases h0 : a = []
    · subst h0
      obtain ⟨pa, ca, rfl, _⟩ := ha.shape
      obtain ⟨pb, cb, rfl, _⟩ := hb.shape
      obtain rfl : b = [] := by simpa using hl.symm
      go_enter Try.func20, Try.ntmps20
      go_wp2
      go_loopw [4, 5] (fun r i wr => r = .bool false ∧ i = .int .i64 0 ∧ wr = w) (fun _ _ _ => 0)
      case atStart => exact ⟨rfl, rfl, rfl⟩
      case round =>
        obtain ⟨rfl, rfl, rfl⟩ := hrel
        go_wp2
        go_ret
        exact ⟨ret_bool (by simp), 0, rfl⟩
    · obtain ⟨ab, ao, ac, rfl, ha1, ha2, ha3⟩ := ha.open h0
      obtain ⟨bb, bo, bc, rfl, hb1, hb2, hb3⟩ := hb.open (by rintro rfl; simp at hl; exact h0 hl)
      unfold maxLen at ha2 hb2
      have hl' : (a.length : Int) = b.length := by omega
      have hne : (((a.length : Int)) != (b.length : Int)) = false := by simp [hl]
      have Hl := hid hl
      clear hl hl' h0
      go_enter Try.func20, Try.ntmps20
      go_wp2
      go_loopw [4, 5] (fun r i wr => ∃ k n : Nat, r = .bool false ∧ k ≤ a.length ∧ i = .int .i64 k ∧ a.take k = b.take k ∧ wr = w.drewN n) (fun _ i _ => a.length - (intOf i).toNat)
      case atStart => exact ⟨0, 0, rfl, Nat.zero_le _, rfl, rfl, rfl⟩
      case round =>
        obtain ⟨k, n, rfl, hk, rfl, ht, rfl⟩ := hrel
        have Ht := hid ht
        clear ht
        by_cases hlt : k < a.length
        · have hlt' : k < b.length := by rw [← Hl.out]; exact hlt
          have c1 := rangeAt_one (ha3 k a[k] (by simp))
          have c2 := rangeAt_one (hb3 k b[k] (by simp))
          simp only [Nat.mul_one] at c1 c2
          have hts := hid (take_succ_eq hlt hlt')
          have Hal := hid ha3
          have Hbl := hid hb3
          clear ha3 hb3
          generalize a[k] = x at *
          generalize b[k] = y at *
          by_cases hxy : x = y
          · subst hxy
            have q : (x != x) = false := by simp
            have k1 : (k : Int) < (b.length : Int) := by omega
            have k2 : (k : Int) < (a.length : Int) := by omega
            go_wp2
            go_quiet (fail)
            go_wp2
            go_roundw
            case rel => exact ⟨k + 1, _, rfl, by omega, by go_num, hts.out.2 ⟨Ht.out, by trivial⟩, by first | rfl | exact World.drewN_drewN ..⟩
            case measure => simp [intOf]; omega
          · have q : (x != y) = true := by simpa using hxy
            have k1 : (k : Int) < (b.length : Int) := by omega
            have k2 : (k : Int) < (a.length : Int) := by omega
            go_wp2
            go_quiet (fail)
            go_wp2
            go_ret
            refine ⟨ret_bool ?_, _, by first | rfl | exact World.drewN_drewN ..⟩
            have : a ≠ b := by rintro rfl; exact hxy (hts.out.1 rfl).2
            simpa using this
        · go_wp2
          go_ret
          refine ⟨ret_bool ?_, _, rfl⟩
          have : k = a.length := by omega
          subst this
          have h := Ht.out
          rw [List.take_of_length_le (Nat.le_refl _), List.take_of_length_le (by have := Hl.out; omega)] at h
          simpa using h
  · obtain ⟨pa, ca, rfl, _⟩ := ha.shape
    obtain ⟨pb, cb, rfl, _⟩ := hb.shape
    have hne : (((a.length : Int)) != (b.length : Int)) = true := by simp; omega
    go_enter Try.func20, Try.ntmps20
    go_wp2
    go_ret
    exact ⟨ret_bool (by simp; rintro rfl; exact hl rfl), 0, rfl⟩
theorem Ints_eq (w : World) (va vb : Value) (a b : List Int) (ha : Sl w 1 encI va a) (hb : Sl w 1 encI vb b) (h : a = b) :
    Calls Try.prog 20 #[va, vb] w fun e w' => e = .returned (.bool true) ∧ ∃ n, w' = w.drewN n :=
  (Ints_any w va vb a b ha hb).mono fun e w' ⟨he, hw⟩ => ⟨by rw [he]; simp [h], hw⟩
end Go.Proofs.Ytomgjapjeckokaa
namespace Go.Proofs.Ytomgjapjeckokaa
open Go.RowKit Go.Shelf Go.Lib

theorem back_calls {W0 : World} {l : List Ent} {la lb : List (List UInt8)} {ps qs : List Int} {ra rb : List UInt8} {M K : Nat} {pm pl : Option Addr} {L cm cl ga ca gb cb gp cp gq cq : Nat} {d : Bool}
    (hL : l.length = L) (hL1 : L ≤ 126) (hk : ∀ e ∈ l, e.key.length = 32) (hM : M ≤ K) (hK : K ≤ 1000)
    (sm : Sl W0 35 encE (.slice pm L cm) l) (sl : Sl W0 35 encE (.slice pl L cl) l)
    (sa : Sl W0 128 keyV (.slice (some ⟨ga, 0, none⟩) K ca) la) (sb : Sl W0 128 keyV (.slice (some ⟨gb, 0, none⟩) K cb) lb) (hla : la.length = K) (hlb : lb.length = K) (ka : ∀ x ∈ la, x.length = 128) (kb : ∀ x ∈ lb, x.length = 128)
    (sp : Sl W0 1 encI (.slice (some ⟨gp, 0, none⟩) K cp) ps) (sq : Sl W0 1 encI (.slice (some ⟨gq, 0, none⟩) K cq) qs) (hlp : ps.length = K) (hlq : qs.length = K)
    (hab : la.take M = lb.take M) (hpq : decide (ps.take M = qs.take M) = d) (gra : la[M]? = some ra) (grb : lb[M]? = some rb) :
    ∃ sva svb svp svq : Value,
      (∀ W, (Instr.sliceAt 24 (.slice (some ⟨ga, 0, none⟩) K ca) none (some (.int .i64 M)) none).run Try.prog W = .ok sva W) ∧
      (∀ W, (Instr.sliceAt 24 (.slice (some ⟨gb, 0, none⟩) K cb) none (some (.int .i64 M)) none).run Try.prog W = .ok svb W) ∧
      (∀ W, (Instr.sliceAt 23 (.slice (some ⟨gp, 0, none⟩) K cp) none (some (.int .i64 M)) none).run Try.prog W = .ok svp W) ∧
      (∀ W, (Instr.sliceAt 23 (.slice (some ⟨gq, 0, none⟩) K cq) none (some (.int .i64 M)) none).run Try.prog W = .ok svq W) ∧
      (∀ W, Below W0.heap.size W0 W → Calls Try.prog 17 #[.slice pm L cm, .slice pl L cl] W fun e w' => e = .returned (.bool true) ∧ Below W.heap.size W w') ∧
      (∀ W, Below W0.heap.size W0 W → Calls Try.prog 16 #[sva, svb] W fun e w' => e = .returned (.bool true) ∧ Below W.heap.size W w') ∧
      (∀ W, Below W0.heap.size W0 W → Calls Try.prog 20 #[svp, svq] W fun e w' => e = .returned (.bool d) ∧ Below W.heap.size W w') ∧
      (∀ W, Below W0.heap.size W0 W → W.rangeAt ga (M * 128) (keyV ra)) ∧ (∀ W, Below W0.heap.size W0 W → W.rangeAt gb (M * 128) (keyV rb)) := by
  have hKB : (Try.prog.info? 43).map (·.size) = some 128 := by kernel_rfl
  have hKI : (Try.prog.info? 3).map (·.size) = some 1 := by kernel_rfl
  have hKm : K ≤ maxLen := by unfold maxLen; omega
  have hta : (la.take M).length ≤ 1000000 := by rw [List.length_take]; omega
  have htb : (lb.take M).length ≤ maxLen := by rw [List.length_take]; omega
  obtain ⟨sva, hva, hvas, -⟩ := slice_take 24 43 128 Try.underlying24 hKB (k := M) (by rw [hla]; exact hM) sa
  obtain ⟨svb, hvb, hvbs, -⟩ := slice_take 24 43 128 Try.underlying24 hKB (k := M) (by rw [hlb]; exact hM) sb
  obtain ⟨svp, hvp, hvps, -⟩ := slice_take 23 3 1 Try.underlying23 hKI (k := M) (by rw [hlp]; exact hM) sp
  obtain ⟨svq, hvq, hvqs, -⟩ := slice_take 23 3 1 Try.underlying23 hKI (k := M) (by rw [hlq]; exact hM) sq
  have row : ∀ {g c : Nat} {ls : List (List UInt8)} {r : List UInt8}, Sl W0 128 keyV (.slice (some ⟨g, 0, none⟩) K c) ls → ls[M]? = some r → ∀ W, Below W0.heap.size W0 W → W.rangeAt g (M * 128) (keyV r) := fun {g c ls r} hs hr W h => by
    obtain ⟨b', o', c', he', -, -, hc⟩ := ((Kept.of_below h 0).sl hs).open (by intro e; rw [e] at hr; simp at hr)
    obtain ⟨h1, -⟩ := Value.slice.inj he'
    obtain ⟨rfl, rfl, -⟩ := Addr.mk.inj (Option.some.inj h1)
    have h9 := hc M r hr
    rwa [Nat.zero_add] at h9
  refine ⟨sva, svb, svp, svq, hva, hvb, hvp, hvq, fun W h => ?_, fun W h => ?_, fun W h => ?_, row sa gra, row sb grb⟩
  · have h9 := Entries_any l l _ _ W ((Kept.of_below h 0).sl sm) ((Kept.of_below h 0).sl sl) hk hk (by omega) (by unfold maxLen; omega)
    rw [decide_eq_true (rfl : l = l)] at h9
    exact h9
  · have h9 := Blocks_any (la.take M) (lb.take M) sva svb W (hvas W ((Kept.of_below h 0).sl sa)) (hvbs W ((Kept.of_below h 0).sl sb)) (fun x hx => ka x (List.mem_of_mem_take hx)) (fun x hx => kb x (List.mem_of_mem_take hx)) hta htb
    rw [decide_eq_true hab] at h9
    exact h9
  · have h9 := Ints_any W svp svq (ps.take M) (qs.take M) (hvps W ((Kept.of_below h 0).sl sp)) (hvqs W ((Kept.of_below h 0).sl sq))
    rw [hpq] at h9
    refine h9.mono ?_
    rintro e w' ⟨he, n, rfl⟩
    exact ⟨he, (Below.refl _ _).drewN n⟩
/-- what is known of the two packed indexes -/
theorem back_plain {l : List Ent} {M n m : Nat} {la lb : List (List UInt8)} (hg : rGoodL l = true) (hk : ∀ e ∈ l, e.key.length = 32) (hM : nLeaf l.length = M) (hM1 : 1 ≤ M) (hM2 : M ≤ 42)
    (ha : leafsS l M ++ [sealB (rootB (plcS n M))] = la) (hb : leafsS l M ++ [sealB (rootB (plcS m M))] = lb) :
    unpS (la.take M) = some l ∧ unpS (la.take (M - 1)) = some (l.take (3 * (M - 1))) ∧ la.take M = lb.take M ∧ la.length = M + 1 ∧ lb.length = M + 1 ∧ (∀ x ∈ la, x.length = 128) ∧ (∀ x ∈ lb, x.length = 128) ∧
      ∃ ra rb, la[M]? = some ra ∧ lb[M]? = some rb ∧ ra.length = 128 ∧ rb.length = 128 ∧ decide ((plcS n (M + 1)).take M = (plcS m (M + 1)).take M) = decide (ra = rb) := by
  subst ha hb
  have r0 : ∀ x, (rootB (plcS x M)).length ≤ 124 := fun x => by rw [rootB_len, plc_len]; omega
  have c128 : ∀ z, ∀ x ∈ leafsS l M ++ [sealB (rootB (plcS z M))], x.length = 128 := fun z x hx => by
    rcases List.mem_append.1 hx with h | h
    · unfold leafsS at h
      obtain ⟨j, -, rfl⟩ := List.mem_map.1 h
      exact sealB_len (leafB_len hk _)
    · obtain rfl := List.mem_singleton.1 h
      exact sealB_len (r0 z)
  have gr : ∀ z, (leafsS l M ++ [sealB (rootB (plcS z M))])[M]? = some (sealB (rootB (plcS z M))) := fun z => by
    rw [List.getElem?_append_right (by rw [leafs_len]; omega), leafs_len, Nat.sub_self]; rfl
  have hl3 : l.length ≤ 3 * M := by rw [← hM]; unfold nLeaf; omega
  refine ⟨?_, ?_, ?_, by rw [List.length_append, leafs_len]; rfl, by rw [List.length_append, leafs_len]; rfl, c128 n, c128 m, _, _, gr n, gr m, sealB_len (r0 n), sealB_len (r0 m), ?_⟩
  · subst hM
    rw [leafs_back hg hk (Nat.le_refl _), List.take_of_length_le hl3]
  · subst hM
    exact leafs_back hg hk (by omega) _
  · rw [List.take_left' (leafs_len l M), List.take_left' (leafs_len l M)]
  · rw [plc_take _ (by omega), plc_take _ (by omega)]
    refine decide_eq_decide.2 ⟨fun h => by rw [h], fun h => ?_⟩
    exact root_inj (by rw [plc_len, plc_len]) (plc_root _ hM1 (by omega)) (plc_root _ hM1 (by omega)) h
end Go.Proofs.Ytomgjapjeckokaa
namespace Go.Proofs.Ytomgjapjeckokaa
open Go.RowKit Go.Shelf Go.Lib

theorem wpList_slice_w {P : Program} {ops : Array Oper} {rest : List Oper} {op : Oper} {a : Act} {w : World} {Q : Exit → Act → World → Prop} (hgd : Region.wanted op (yielded ops a.tmps) = true) (t : TypeId) (x : Operand) (lo hi : Option Operand) (ho : op.op = .slice t x lo hi none) (v : Value)
    (h : ∀ w, (Instr.sliceAt t (a.eval x) (lo.map a.eval) (hi.map a.eval) none).run P w = .ok v w) (hk : wpList P ops Q rest (a.put op.dst v) w) : wpList P ops Q (op :: rest) a w :=
  BigFrame.wpList_want hgd fun _ hK => by
    have h9 : (execOp a.eval op).run P w = .ok (.value v) w := by
      unfold execOp
      simp only [ho, Sem.run_bind, Option.map_none, h w, Result.andThen_ok]; rfl
    unfold Oper.wp
    rw [h9]
    exact hK _ _ hk
set_option maxRecDepth 100000 in
set_option maxHeartbeats 20000000 in
theorem IndexBack_any (l : List Ent) (x0 x1 : UInt8) (v : Value) (w : World) (hs : Sl w 35 encE v l) (hk : ∀ e ∈ l, e.key.length = 32) :
    Calls Try.prog 4 #[v, .agg #[.int .u8 (x0.toNat : Int), .int .u8 (x1.toNat : Int)]] w fun e w' => e = .returned (.bool true) ∧ Below w.heap.size w w' := by
  obtain ⟨iI, hInf, hy0, hy1, hy2⟩ := infoI_parts
  obtain ⟨n₀, hn₀⟩ : ∃ n, w.heap.size = n := ⟨_, rfl⟩
  obtain ⟨pl, cl, rfl, hlc⟩ := hs.shape
  have hsB : ∀ W, Below n₀ w W → Sl W 35 encE (.slice pl l.length cl) l := fun W hB => (Kept.of_below (hn₀ ▸ hB : Below w.heap.size w W) 0).sl hs
  have g1 := World.alloc_heap_new w (.cells #[.int .u8 (x0.toNat : Int), .int .u8 (x1.toNat : Int)] 41)
  rw [hn₀] at g1
  have B1 : Below n₀ w (w.alloc (.cells #[.int .u8 (x0.toNat : Int), .int .u8 (x1.toNat : Int)] 41)) := by rw [← hn₀]; exact (Below.refl _ w).alloc (Nat.le_refl _) _
  obtain ⟨W1, hW1⟩ : ∃ W : World, W = w.alloc (.cells #[.int .u8 (x0.toNat : Int), .int .u8 (x1.toNat : Int)] 41) := ⟨_, rfl⟩
  rw [← hW1] at g1 B1
  unfold maxLen at hlc
  have cR := hid (rGood_any l _ W1 (hsB _ B1) hk)
  obtain ⟨L, hL⟩ : ∃ x, l.length = x := ⟨_, rfl⟩
  rw [hL] at hsB cR hlc ⊢
  obtain ⟨rb, hrb⟩ : ∃ r, rGoodL l = r := ⟨_, rfl⟩
  rw [hrb] at cR
  replace hL := hid hL
  replace hrb := hid hrb
  replace hsB := hid hsB
  replace hs := hid hs
  go_enter Try.func4, Try.ntmps4
  go_upto_region 1 with (fail)
  rw [← hW1]
  clear hW1
  go_wp2_with (fail)
  refine cR.out.mono ?_
  rintro r w2 ⟨rfl, b2⟩
  have g2 := (Kept.of_below b2 0).same _ _ g1 (.inl rfl)
  have B2 := B1.trans (b2.mono (by have := B1.size; omega))
  clear cR b2 g1 B1
  cases rb with
  | false =>
    go_wp2_with (fail)
    refine (wakes_any _).mono ?_
    rintro r w4 ⟨rfl, b4⟩
    have B4 := B2.trans (b4.mono (by have := B2.size; omega))
    clear b4
    go_wp2_with (fail)
    go_ret
    subst hn₀
    exact ⟨rfl, B4⟩
  | true =>
    by_cases h0 : L = 0
    · subst h0
      go_wp2_with (fail)
      refine (wakes_any _).mono ?_
      rintro r w4 ⟨rfl, b4⟩
      have B4 := B2.trans (b4.mono (by have := B2.size; omega))
      clear b4
      go_wp2_with (fail)
      go_ret
      subst hn₀
      exact ⟨rfl, B4⟩
    · have h0I : ¬ (L : Int) = 0 := by omega
      have hG := hrb.out
      have hfew := good_few hG
      rw [hL.out] at hfew
      have hne : l ≠ [] := by rintro rfl; have := hL.out; simp at this; omega
      obtain ⟨M, hM⟩ : ∃ m, nLeaf L = m := ⟨_, rfl⟩
      have hM1 : 1 ≤ M := by rw [← hM]; unfold nLeaf; omega
      have hM2 : M ≤ 42 := by rw [← hM]; unfold nLeaf; omega
      have hM3 : 3 * (M - 1) ≤ L := by rw [← hM]; unfold nLeaf; omega
      have hM4 : L ≤ 3 * M := by rw [← hM]; unfold nLeaf; omega
      obtain ⟨K, hK⟩ : ∃ k, M + 1 = k := ⟨_, rfl⟩
      have hK43 : K ≤ 43 := by omega
      have hsz : sizeS (L : Int) = (K : Int) := by rw [size_nLeaf (by omega), hM, hK]
      have cS1 := hid (fun W => by have h := rSize_any (L : Int) W (by omega) (by omega); rw [hsz] at h; exact h)
      have cS2 := hid (fun W => by have h := Size_any (L : Int) W (by omega); rw [hsz] at h; exact h)
      have hk1 := back_pack hG hne x0.toNat
      have hk2 := back_pack hG hne x1.toNat
      rw [hL.out, hM, hK] at hk1 hk2
      have hM' : nLeaf l.length = M := by rw [hL.out]; exact hM
      obtain ⟨la, hla'⟩ : ∃ x, leafsS l M ++ [sealB (rootB (plcS x0.toNat M))] = x := ⟨_, rfl⟩
      obtain ⟨lb, hlb'⟩ : ∃ x, leafsS l M ++ [sealB (rootB (plcS x1.toNat M))] = x := ⟨_, rfl⟩
      obtain ⟨u1, u2, hab, hla, hlb, ka, kb, ra, rb, gra, grb, lra, lrb, hdp⟩ := back_plain hG hk hM' hM1 hM2 hla' hlb'
      rw [hla'] at hk1
      rw [hlb'] at hk2
      rw [hK] at hla hlb hdp
      obtain ⟨d, hd⟩ : ∃ d : Bool, decide (ra = rb) = d := ⟨_, rfl⟩
      rw [hd] at hdp
      obtain ⟨M1, hM1'⟩ : ∃ m, M - 1 = m := ⟨_, rfl⟩
      rw [hM1'] at u2
      have hqe : ∀ W, (binOp .eql 43 (.agg (keyV ra).toArray) (.agg (keyV rb).toArray)).run Try.prog W = .ok (.bool d) W := fun W => by
        have h := run_eql_u8s (P := Try.prog) W (t := 43) (e := 5) (n := 128) Try.underlying43 Try.underlying5 (by kernel_rfl) (intsU ra) (intsU rb) (by unfold intsU; rw [List.length_map, lra]) (by unfold intsU; rw [List.length_map, lrb])
        rw [← rowU_u8s, ← rowU_u8s] at h
        rw [show decide (intsU ra = intsU rb) = d by rw [← hd]; exact decide_eq_decide.2 ⟨intsU_inj, fun h => by rw [h]⟩] at h
        exact h
      have hiraB : (Try.prog.info? 43).map (·.size) = some (keyV ra).length := by rw [keyV_len, lra]; kernel_rfl
      have hirbB : (Try.prog.info? 43).map (·.size) = some (keyV rb).length := by rw [keyV_len, lrb]; kernel_rfl
      have hKI1 : ¬ (126 : Int) < (K : Int) := by omega
      have hKw1 : IntKind.i64.wrap ((K : Int) - 1) = (M : Int) := wrI (by omega) (by omega) (by omega)
      have hKw2 : IntKind.i64.wrap ((K : Int) - 2) = (M1 : Int) := wrI (by omega) (by omega) (by omega)
      have hMi : M ≤ K := by omega
      have hM1i : M1 ≤ K := by omega
      have hK0 : 0 < K := by omega
      have hMI : (M : Int) < (K : Int) := by omega
      have hM0 : ¬ (M : Int) < 0 := by omega
      have hK1000 : K ≤ 1000 := by omega
      obtain ⟨Z, hZ⟩ : ∃ z, 3 * M1 = z := ⟨_, rfl⟩
      have hZw : IntKind.i64.wrap (3 * (M1 : Int)) = (Z : Int) := wrI (by omega) (by omega) (by omega)
      have hZm : (Z : Int) ≤ (L : Int) := by omega
      have hZL : Z ≤ L := by omega
      rw [hZ] at u2
      have hlt1 : (l.take Z).length = Z := by rw [List.length_take, hL.out]; omega
      have hZ6 : Z ≤ 1000000 := by omega
      have hZ9 : Z ≤ maxLen := by unfold maxLen; omega
      have lt1 : (la.take M).length ≤ 10000 := by rw [List.length_take, hla]; omega
      have lt2 : (la.take M1).length ≤ 10000 := by rw [List.length_take, hla]; omega
      replace u1 := hid u1
      replace u2 := hid u2
      replace hab := hid hab
      replace hla := hid hla
      replace hlb := hid hlb
      replace ka := hid ka
      replace kb := hid kb
      replace gra := hid gra
      replace grb := hid grb
      replace lra := hid lra
      replace lrb := hid lrb
      replace hdp := hid hdp
      replace hqe := hid hqe
      replace hiraB := hid hiraB
      replace hirbB := hid hirbB
      replace hKI1 := hid hKI1
      replace hKw1 := hid hKw1
      replace hKw2 := hid hKw2
      replace hMi := hid hMi
      replace hM1i := hid hM1i
      replace hK0 := hid hK0
      replace hMI := hid hMI
      replace hM0 := hid hM0
      replace hK1000 := hid hK1000
      replace hZw := hid hZw
      replace hZm := hid hZm
      replace hZL := hid hZL
      replace hlt1 := hid hlt1
      replace hZ6 := hid hZ6
      replace hZ9 := hid hZ9
      replace lt1 := hid lt1
      replace lt2 := hid lt2
      clear hla' hlb' hd hM1' hZ
      have hio := good_int hG hk
      have cP := hid (fun (n : Nat) (pv : Value) (W : World) (hW : Sl W 35 encE (.slice pl L cl) l) (hp : Sl W 1 encI pv (plcS n K)) => Pack_any l (plcS n K) _ pv W hW hp hio (by rw [hL.out]; omega) (by rw [plc_len]; omega))
      have hz2' := B2.size
      have hN2 : n₀ < w2.heap.size := (Array.getElem?_eq_some_iff.1 g2).1
      obtain ⟨NB, hNB⟩ : ∃ n, w2.heap.size = n := ⟨_, rfl⟩
      have hq0 : ∀ W, Below NB w2 W → W.cell? ⟨n₀, 0, none⟩ = some (.int .u8 (x0.toNat : Int)) := fun W h => cell_blk ((h.block n₀ (by omega)).trans g2) rfl
      have hq1 : ∀ W, Below NB w2 W → W.cell? ⟨n₀, 1, none⟩ = some (.int .u8 (x1.toNat : Int)) := fun W h => cell_blk ((h.block n₀ (by omega)).trans g2) rfl
      have BB : Below NB w2 w2 := Below.refl _ _
      have TW := twoP_nil w2 NB
      replace hsz := hid hsz
      replace hM := hid hM
      replace hM' := hid hM'
      replace hK := hid hK
      replace hk1 := hid hk1
      replace hk2 := hid hk2
      replace hio := hid hio
      replace hq0 := hid hq0
      replace hq1 := hid hq1
      replace hG := hid hG
      replace hne := hid hne
      clear g2
      go_wp2_with (fail)
      refine (cS1.out _).mono ?_
      rintro r w3 ⟨rfl, rfl⟩
      clear cS1
      go_wp2_with (fail)
      refine (cS2.out _).mono ?_
      rintro r w4 ⟨rfl, rfl⟩
      clear cS2
      go_wp2_with (fail)
      go_loopw [6, 7, 8] (fun pv qv iv wr => ∃ i : Nat, i ≤ K ∧ iv = .int .i64 i ∧ TwoP wr NB pv (plcS x0.toNat i) qv (plcS x1.toNat i) ∧ Below NB w4 wr) (fun _ _ iv _ => K - (RowKit.intOf iv).toNat)
      case atStart => exact ⟨0, Nat.zero_le _, rfl, TW, BB⟩
      case round =>
        obtain ⟨i, hiK, rfl, TW2, BR⟩ := hrel
        clear TW BB
        have TW := TW2
        clear TW2
        by_cases hlt : i < K
        · have hiI : (i : Int) < (K : Int) := by omega
          have hst : (fun W => Below NB w4 W) wr.drew := BR.drewN 1
          have hpl0 : (plcS x0.toNat i).length ≤ 43 := by rw [plc_len]; omega
          have hpl1 : (plcS x1.toNat i).length ≤ 43 := by rw [plc_len]; omega
          have hx0 := x0.toNat_lt
          have hx1 := x1.toNat_lt
          have hi43 : i < 43 := by omega
          obtain ⟨y0, P0, a0, v0, c0, d0, e0, f0, hP0⟩ := plc_step x0.toNat i hx0 hi43
          obtain ⟨y1, P1, a1, v1, c1, d1, e1, f1, hP1⟩ := plc_step x1.toNat i hx1 hi43
          have hs0 := plc_snoc x0.toNat i
          have hs1 := plc_snoc x1.toNat i
          rw [hP0] at hs0
          rw [hP1] at hs1
          have hpa0 : (plcS x0.toNat i ++ [P0]).length = (plcS x0.toNat i).length + 1 := by simp
          have hpa1 : (plcS x1.toNat i ++ [P1]).length = (plcS x1.toNat i).length + 1 := by simp
          have hpi0 : (plcS x0.toNat i).length = i := plc_len _ _
          have hpi1 : (plcS x1.toNat i).length = i := plc_len _ _
          have TWd := TW.drew
          replace hpl0 := hid hpl0
          replace hpl1 := hid hpl1
          replace hpa0 := hid hpa0
          replace hpa1 := hid hpa1
          replace hs0 := hid hs0
          replace hs1 := hid hs1
          clear hP0 hP1
          replace hpi0 := hid hpi0
          replace hpi1 := hid hpi1
          clear TW BR
          go_upto_region 10 with (fail)
          replace hs := hid hs
          have TW := TWd
          clear TWd
          have hKs : i + 1 ≤ K := by omega
          refine wp_region_held_drew (S := (fun W => Below NB w4 W)) (by kernel_rfl) hst (fun hHeld => ?_)
          generalize wr.drew = wd at *
          refine wpAnyH_take (i := 0) (oi := ⟨some 39, _, _, _, _, _⟩) (v := ?_) rfl (by kernel_rfl) (by kernel_rfl) (by kernel_rfl) (fun _ _ _ h => h) (Or.inl ⟨by rfl, ?_⟩) (by assumption) ?_
          rotate_left
          · intro w hSw; (try dsimp only at hSw); go_simp <;> with_reducible rfl
          try simp only [Act.put, List.setIfInBounds_toArray, List.set_cons_zero, List.set_cons_succ]
          refine wpAnyH_take (i := 1) (oi := ⟨some 40, _, _, _, _, _⟩) (v := ?_) rfl (by kernel_rfl) (by kernel_rfl) (by kernel_rfl) (fun _ _ _ h => h) (Or.inl ⟨by rfl, ?_⟩) (by assumption) ?_
          rotate_left
          · intro w hSw; (try dsimp only at hSw); go_simp <;> with_reducible rfl
          try simp only [Act.put, List.setIfInBounds_toArray, List.set_cons_zero, List.set_cons_succ]
          refine wpAnyH_take (i := 2) (oi := ⟨some 41, _, _, _, _, _⟩) (v := ?_) rfl (by kernel_rfl) (by kernel_rfl) (by kernel_rfl) (fun _ _ _ h => h) (Or.inl ⟨by rfl, ?_⟩) (by assumption) ?_
          rotate_left
          · intro w hSw; (try dsimp only at hSw); have h9 := hq0.out _ hSw; go_simp <;> with_reducible rfl
          try simp only [Act.put, List.setIfInBounds_toArray, List.set_cons_zero, List.set_cons_succ]
          refine wpAnyH_take (i := 3) (oi := ⟨some 42, _, _, _, _, _⟩) (v := ?_) rfl (by kernel_rfl) (by kernel_rfl) (by kernel_rfl) (fun _ _ _ h => h) (Or.inl ⟨by rfl, ?_⟩) (by assumption) ?_
          rotate_left
          · intro w hSw; (try dsimp only at hSw); go_simp <;> with_reducible rfl
          try simp only [Act.put, List.setIfInBounds_toArray, List.set_cons_zero, List.set_cons_succ]
          refine wpAnyH_take (i := 4) (oi := ⟨some 43, _, _, _, _, _⟩) (v := ?_) rfl (by kernel_rfl) (by kernel_rfl) (by kernel_rfl) (fun _ _ _ h => h) (Or.inl ⟨by rfl, ?_⟩) (by assumption) ?_
          rotate_left
          · intro w hSw; (try dsimp only at hSw); go_simp <;> with_reducible rfl
          try simp only [Act.put, List.setIfInBounds_toArray, List.set_cons_zero, List.set_cons_succ]
          refine wpAnyH_take (i := 5) (oi := ⟨some 44, _, _, _, _, _⟩) (v := ?_) rfl (by kernel_rfl) (by kernel_rfl) (by kernel_rfl) (fun _ _ _ h => h) (Or.inl ⟨by rfl, ?_⟩) (by assumption) ?_
          rotate_left
          · intro w hSw; (try dsimp only at hSw); go_simp <;> with_reducible rfl
          try simp only [Act.put, List.setIfInBounds_toArray, List.set_cons_zero, List.set_cons_succ]
          refine wpAnyH_take (i := 6) (oi := ⟨some 45, _, _, _, _, _⟩) (v := ?_) rfl (by kernel_rfl) (by kernel_rfl) (by kernel_rfl) (fun _ _ _ h => h) (Or.inl ⟨by rfl, ?_⟩) (by assumption) ?_
          rotate_left
          · intro w hSw; (try dsimp only at hSw); go_simp <;> with_reducible rfl
          try simp only [Act.put, List.setIfInBounds_toArray, List.set_cons_zero, List.set_cons_succ]
          refine wpAnyH_take (i := 7) (oi := ⟨some 46, _, _, _, _, _⟩) (v := ?_) rfl (by kernel_rfl) (by kernel_rfl) (by kernel_rfl) (fun _ _ _ h => h) (Or.inl ⟨by rfl, ?_⟩) (by assumption) ?_
          rotate_left
          · intro w hSw; (try dsimp only at hSw); go_simp <;> with_reducible rfl
          try simp only [Act.put, List.setIfInBounds_toArray, List.set_cons_zero, List.set_cons_succ]
          refine wpAnyH_take (i := 10) (oi := ⟨some 49, _, _, _, _, _⟩) (v := ?_) rfl (by kernel_rfl) (by kernel_rfl) (by kernel_rfl) (fun _ _ _ h => h) (Or.inl ⟨by rfl, ?_⟩) (by assumption) ?_
          rotate_left
          · intro w hSw; (try dsimp only at hSw); go_simp <;> with_reducible rfl
          try simp only [Act.put, List.setIfInBounds_toArray, List.set_cons_zero, List.set_cons_succ]
          refine wpAnyH_take (i := 11) (oi := ⟨some 50, _, _, _, _, _⟩) (v := ?_) rfl (by kernel_rfl) (by kernel_rfl) (by kernel_rfl) (fun _ _ _ h => h) (Or.inl ⟨by rfl, ?_⟩) (by assumption) ?_
          rotate_left
          · intro w hSw; (try dsimp only at hSw); go_simp <;> with_reducible rfl
          try simp only [Act.put, List.setIfInBounds_toArray, List.set_cons_zero, List.set_cons_succ]
          refine wpAnyH_take (i := 12) (oi := ⟨some 51, _, _, _, _, _⟩) (v := ?_) rfl (by kernel_rfl) (by kernel_rfl) (by kernel_rfl) (fun _ _ _ h => h) (Or.inl ⟨by rfl, ?_⟩) (by assumption) ?_
          rotate_left
          · intro w hSw; (try dsimp only at hSw); have h9 := hq1.out _ hSw; go_simp <;> with_reducible rfl
          try simp only [Act.put, List.setIfInBounds_toArray, List.set_cons_zero, List.set_cons_succ]
          refine wpAnyH_take (i := 13) (oi := ⟨some 52, _, _, _, _, _⟩) (v := ?_) rfl (by kernel_rfl) (by kernel_rfl) (by kernel_rfl) (fun _ _ _ h => h) (Or.inl ⟨by rfl, ?_⟩) (by assumption) ?_
          rotate_left
          · intro w hSw; (try dsimp only at hSw); go_simp <;> with_reducible rfl
          try simp only [Act.put, List.setIfInBounds_toArray, List.set_cons_zero, List.set_cons_succ]
          refine wpAnyH_take (i := 14) (oi := ⟨some 53, _, _, _, _, _⟩) (v := ?_) rfl (by kernel_rfl) (by kernel_rfl) (by kernel_rfl) (fun _ _ _ h => h) (Or.inl ⟨by rfl, ?_⟩) (by assumption) ?_
          rotate_left
          · intro w hSw; (try dsimp only at hSw); go_simp <;> with_reducible rfl
          try simp only [Act.put, List.setIfInBounds_toArray, List.set_cons_zero, List.set_cons_succ]
          refine wpAnyH_take (i := 15) (oi := ⟨some 54, _, _, _, _, _⟩) (v := ?_) rfl (by kernel_rfl) (by kernel_rfl) (by kernel_rfl) (fun _ _ _ h => h) (Or.inl ⟨by rfl, ?_⟩) (by assumption) ?_
          rotate_left
          · intro w hSw; (try dsimp only at hSw); go_simp <;> with_reducible rfl
          try simp only [Act.put, List.setIfInBounds_toArray, List.set_cons_zero, List.set_cons_succ]
          refine wpAnyH_take (i := 16) (oi := ⟨some 55, _, _, _, _, _⟩) (v := ?_) rfl (by kernel_rfl) (by kernel_rfl) (by kernel_rfl) (fun _ _ _ h => h) (Or.inl ⟨by rfl, ?_⟩) (by assumption) ?_
          rotate_left
          · intro w hSw; (try dsimp only at hSw); go_simp <;> with_reducible rfl
          try simp only [Act.put, List.setIfInBounds_toArray, List.set_cons_zero, List.set_cons_succ]
          refine wpAnyH_take (i := 17) (oi := ⟨some 56, _, _, _, _, _⟩) (v := ?_) rfl (by kernel_rfl) (by kernel_rfl) (by kernel_rfl) (fun _ _ _ h => h) (Or.inl ⟨by rfl, ?_⟩) (by assumption) ?_
          rotate_left
          · intro w hSw; (try dsimp only at hSw); go_simp <;> with_reducible rfl
          try simp only [Act.put, List.setIfInBounds_toArray, List.set_cons_zero, List.set_cons_succ]
          refine wpAnyH_ready (rs := [8, 18]) (by kernel_rfl) (by simp) ?_
          refine AllReadyH.cons (o := ⟨some 47, _, _, _, _, _⟩) rfl (fun K hK => ?_) ?_
          · refine (if_pos (by rfl)).mpr ?_
            refine wp_build_int _ P0 rfl rfl ?_
            intro bz0 wz0 eb0 ew0
            have cz0 := cellP_new TW (x := P0) (by have := hHeld.size; omega) eb0 ew0
            have TW := TW.alloc ew0
            have hH0 : Below NB w4 wz0 := by rw [← ew0]; exact hHeld.alloc (by have := hHeld.size; omega) _
            clear eb0 ew0
            refine hK.out _ _ hH0 (fun hHeld => ?_)
            clear hH0
            clear hK K
            try simp only [Act.put, List.setIfInBounds_toArray, List.set_cons_zero, List.set_cons_succ]
            refine wpAnyH_ready (rs := [9, 18]) (by kernel_rfl) (by simp) ?_
            refine AllReadyH.cons (o := ⟨some 48, _, _, _, _, _⟩) rfl (fun K hK => ?_) ?_
            · refine (if_pos (by rfl)).mpr ?_
              refine wp_append_lies _ _ _ 23 rfl NB 3 iI (.int .i64 0) 1 8 Try.underlying23 hInf hy0 hy1 hy2 rfl (by decide) _ _ _ rfl (TW).1 ⟨bz0, 0, none⟩ 1 1 [.int .i64 P0] rfl rfl (cz0).news (by simp [Value.oneCell']) (by decide) (by have := hpl0.out; unfold maxLen; omega) (by have := hpl0.out; omega) (by have := hHeld.size; omega) _ rfl ?_
              intro g0 c0 wy0 own0 grow0 at0 lt0
              have hH0 : Below NB w4 wy0 := hHeld.grown grow0 (by have := hHeld.size; omega) (fun j e => (TW).base e)
              have TW := ((TW  ).app own0 (by rw [hpa0.out]) grow0 at0)
              refine hK.out _ _ hH0 (fun hHeld => ?_)
              clear hH0
              clear hK K
              try simp only [Act.put, List.setIfInBounds_toArray, List.set_cons_zero, List.set_cons_succ]
              refine wpAnyH_ready (rs := [18]) (by kernel_rfl) (by simp) ?_
              refine AllReadyH.cons (o := ⟨some 57, _, _, _, _, _⟩) rfl (fun K hK => ?_) AllReadyH.nil
              refine (if_pos (by rfl)).mpr ?_
              refine wp_build_int _ P1 rfl rfl ?_
              intro bz1 wz1 eb1 ew1
              have cz1 := cellP_new TW (x := P1) (by have := hHeld.size; omega) eb1 ew1
              have TW := TW.alloc ew1
              have hH1 : Below NB w4 wz1 := by rw [← ew1]; exact hHeld.alloc (by have := hHeld.size; omega) _
              clear eb1 ew1
              refine hK.out _ _ hH1 (fun hHeld => ?_)
              clear hH1
              clear hK K
              try simp only [Act.put, List.setIfInBounds_toArray, List.set_cons_zero, List.set_cons_succ]
              refine wpAnyH_ready (rs := [19]) (by kernel_rfl) (by simp) ?_
              refine AllReadyH.cons (o := ⟨some 58, _, _, _, _, _⟩) rfl (fun K hK => ?_) AllReadyH.nil
              refine (if_pos (by rfl)).mpr ?_
              refine wp_append_lies _ _ _ 23 rfl NB 3 iI (.int .i64 0) 1 8 Try.underlying23 hInf hy0 hy1 hy2 rfl (by decide) _ _ _ rfl (TW.symm).1 ⟨bz1, 0, none⟩ 1 1 [.int .i64 P1] rfl rfl (cz1).news (by simp [Value.oneCell']) (by decide) (by have := hpl1.out; unfold maxLen; omega) (by have := hpl1.out; omega) (by have := hHeld.size; omega) _ rfl ?_
              intro g1 c1 wy1 own1 grow1 at1 lt1
              have hH1 : Below NB w4 wy1 := hHeld.grown grow1 (by have := hHeld.size; omega) (fun j e => (TW.symm).base e)
              have TW := ((TW.symm  ).app own1 (by rw [hpa1.out]) grow1 at1).symm
              refine hK.out _ _ hH1 (fun hHeld => ?_)
              clear hH1
              clear hK K
              try simp only [Act.put, List.setIfInBounds_toArray, List.set_cons_zero, List.set_cons_succ]
              refine wpAnyH_take (i := 20) (oi := ⟨some 6, _, _, _, _, _⟩) (v := ?_) rfl (by kernel_rfl) (by kernel_rfl) (by kernel_rfl) (fun _ _ _ h => h) (Or.inl ⟨by rfl, ?_⟩) (by assumption) ?_
              rotate_left
              · intro w hSw; (try dsimp only at hSw); go_simp <;> with_reducible rfl
              try simp only [Act.put, List.setIfInBounds_toArray, List.set_cons_zero, List.set_cons_succ]
              refine wpAnyH_take (i := 21) (oi := ⟨some 7, _, _, _, _, _⟩) (v := ?_) rfl (by kernel_rfl) (by kernel_rfl) (by kernel_rfl) (fun _ _ _ h => h) (Or.inl ⟨by rfl, ?_⟩) (by assumption) ?_
              rotate_left
              · intro w hSw; (try dsimp only at hSw); go_simp <;> with_reducible rfl
              try simp only [Act.put, List.setIfInBounds_toArray, List.set_cons_zero, List.set_cons_succ]
              refine wpAnyH_done (by kernel_rfl) ?_ _
              rw [← hs0.out, ← hs1.out] at TW
              clear hst
              go_wp2_with (fail)
              refine ⟨?_, ?_⟩
              · first | exact ⟨i + 1, hKs, by go_num, TW, hHeld⟩ | ((repeat apply Exists.intro); refine ⟨?_, rfl⟩; exact ⟨i + 1, hKs, by go_num, TW, hHeld⟩)
              · simp [RowKit.intOf]; omega
            refine AllReadyH.cons (o := ⟨some 57, _, _, _, _, _⟩) rfl (fun K hK => ?_) AllReadyH.nil
            refine (if_pos (by rfl)).mpr ?_
            refine wp_build_int _ P1 rfl rfl ?_
            intro bz1 wz1 eb1 ew1
            have cz1 := cellP_new TW (x := P1) (by have := hHeld.size; omega) eb1 ew1
            have cz0 := cz0.alloc ew1
            have TW := TW.alloc ew1
            have hH1 : Below NB w4 wz1 := by rw [← ew1]; exact hHeld.alloc (by have := hHeld.size; omega) _
            clear eb1 ew1
            refine hK.out _ _ hH1 (fun hHeld => ?_)
            clear hH1
            clear hK K
            try simp only [Act.put, List.setIfInBounds_toArray, List.set_cons_zero, List.set_cons_succ]
            refine wpAnyH_ready (rs := [9]) (by kernel_rfl) (by simp) ?_
            refine AllReadyH.cons (o := ⟨some 48, _, _, _, _, _⟩) rfl (fun K hK => ?_) AllReadyH.nil
            refine (if_pos (by rfl)).mpr ?_
            refine wp_append_lies _ _ _ 23 rfl NB 3 iI (.int .i64 0) 1 8 Try.underlying23 hInf hy0 hy1 hy2 rfl (by decide) _ _ _ rfl (TW).1 ⟨bz0, 0, none⟩ 1 1 [.int .i64 P0] rfl rfl (cz0).news (by simp [Value.oneCell']) (by decide) (by have := hpl0.out; unfold maxLen; omega) (by have := hpl0.out; omega) (by have := hHeld.size; omega) _ rfl ?_
            intro g0 c0 wy0 own0 grow0 at0 lt0
            have cz1 := (cz1.app (n := (plcS x0.toNat i).length + 1) (c := c0) grow0 at0)
            have hH0 : Below NB w4 wy0 := hHeld.grown grow0 (by have := hHeld.size; omega) (fun j e => (TW).base e)
            have TW := ((TW  ).app own0 (by rw [hpa0.out]) grow0 at0)
            refine hK.out _ _ hH0 (fun hHeld => ?_)
            clear hH0
            clear hK K
            try simp only [Act.put, List.setIfInBounds_toArray, List.set_cons_zero, List.set_cons_succ]
            refine wpAnyH_ready (rs := [19]) (by kernel_rfl) (by simp) ?_
            refine AllReadyH.cons (o := ⟨some 58, _, _, _, _, _⟩) rfl (fun K hK => ?_) AllReadyH.nil
            refine (if_pos (by rfl)).mpr ?_
            refine wp_append_lies _ _ _ 23 rfl NB 3 iI (.int .i64 0) 1 8 Try.underlying23 hInf hy0 hy1 hy2 rfl (by decide) _ _ _ rfl (TW.symm).1 ⟨bz1, 0, none⟩ 1 1 [.int .i64 P1] rfl rfl (cz1).news (by simp [Value.oneCell']) (by decide) (by have := hpl1.out; unfold maxLen; omega) (by have := hpl1.out; omega) (by have := hHeld.size; omega) _ rfl ?_
            intro g1 c1 wy1 own1 grow1 at1 lt1
            have hH1 : Below NB w4 wy1 := hHeld.grown grow1 (by have := hHeld.size; omega) (fun j e => (TW.symm).base e)
            have TW := ((TW.symm  ).app own1 (by rw [hpa1.out]) grow1 at1).symm
            refine hK.out _ _ hH1 (fun hHeld => ?_)
            clear hH1
            clear hK K
            try simp only [Act.put, List.setIfInBounds_toArray, List.set_cons_zero, List.set_cons_succ]
            refine wpAnyH_take (i := 20) (oi := ⟨some 6, _, _, _, _, _⟩) (v := ?_) rfl (by kernel_rfl) (by kernel_rfl) (by kernel_rfl) (fun _ _ _ h => h) (Or.inl ⟨by rfl, ?_⟩) (by assumption) ?_
            rotate_left
            · intro w hSw; (try dsimp only at hSw); go_simp <;> with_reducible rfl
            try simp only [Act.put, List.setIfInBounds_toArray, List.set_cons_zero, List.set_cons_succ]
            refine wpAnyH_take (i := 21) (oi := ⟨some 7, _, _, _, _, _⟩) (v := ?_) rfl (by kernel_rfl) (by kernel_rfl) (by kernel_rfl) (fun _ _ _ h => h) (Or.inl ⟨by rfl, ?_⟩) (by assumption) ?_
            rotate_left
            · intro w hSw; (try dsimp only at hSw); go_simp <;> with_reducible rfl
            try simp only [Act.put, List.setIfInBounds_toArray, List.set_cons_zero, List.set_cons_succ]
            refine wpAnyH_done (by kernel_rfl) ?_ _
            rw [← hs0.out, ← hs1.out] at TW
            clear hst
            go_wp2_with (fail)
            refine ⟨?_, ?_⟩
            · first | exact ⟨i + 1, hKs, by go_num, TW, hHeld⟩ | ((repeat apply Exists.intro); refine ⟨?_, rfl⟩; exact ⟨i + 1, hKs, by go_num, TW, hHeld⟩)
            · simp [RowKit.intOf]; omega
          refine AllReadyH.cons (o := ⟨some 57, _, _, _, _, _⟩) rfl (fun K hK => ?_) AllReadyH.nil
          refine (if_pos (by rfl)).mpr ?_
          refine wp_build_int _ P1 rfl rfl ?_
          intro bz1 wz1 eb1 ew1
          have cz1 := cellP_new TW (x := P1) (by have := hHeld.size; omega) eb1 ew1
          have TW := TW.alloc ew1
          have hH1 : Below NB w4 wz1 := by rw [← ew1]; exact hHeld.alloc (by have := hHeld.size; omega) _
          clear eb1 ew1
          refine hK.out _ _ hH1 (fun hHeld => ?_)
          clear hH1
          clear hK K
          try simp only [Act.put, List.setIfInBounds_toArray, List.set_cons_zero, List.set_cons_succ]
          refine wpAnyH_ready (rs := [8]) (by kernel_rfl) (by simp) ?_
          refine AllReadyH.cons (o := ⟨some 47, _, _, _, _, _⟩) rfl (fun K hK => ?_) AllReadyH.nil
          refine (if_pos (by rfl)).mpr ?_
          refine wp_build_int _ P0 rfl rfl ?_
          intro bz0 wz0 eb0 ew0
          have cz0 := cellP_new TW (x := P0) (by have := hHeld.size; omega) eb0 ew0
          have cz1 := cz1.alloc ew0
          have TW := TW.alloc ew0
          have hH0 : Below NB w4 wz0 := by rw [← ew0]; exact hHeld.alloc (by have := hHeld.size; omega) _
          clear eb0 ew0
          refine hK.out _ _ hH0 (fun hHeld => ?_)
          clear hH0
          clear hK K
          try simp only [Act.put, List.setIfInBounds_toArray, List.set_cons_zero, List.set_cons_succ]
          refine wpAnyH_ready (rs := [9]) (by kernel_rfl) (by simp) ?_
          refine AllReadyH.cons (o := ⟨some 48, _, _, _, _, _⟩) rfl (fun K hK => ?_) AllReadyH.nil
          refine (if_pos (by rfl)).mpr ?_
          refine wp_append_lies _ _ _ 23 rfl NB 3 iI (.int .i64 0) 1 8 Try.underlying23 hInf hy0 hy1 hy2 rfl (by decide) _ _ _ rfl (TW).1 ⟨bz0, 0, none⟩ 1 1 [.int .i64 P0] rfl rfl (cz0).news (by simp [Value.oneCell']) (by decide) (by have := hpl0.out; unfold maxLen; omega) (by have := hpl0.out; omega) (by have := hHeld.size; omega) _ rfl ?_
          intro g0 c0 wy0 own0 grow0 at0 lt0
          have cz1 := (cz1.app (n := (plcS x0.toNat i).length + 1) (c := c0) grow0 at0)
          have hH0 : Below NB w4 wy0 := hHeld.grown grow0 (by have := hHeld.size; omega) (fun j e => (TW).base e)
          have TW := ((TW  ).app own0 (by rw [hpa0.out]) grow0 at0)
          refine hK.out _ _ hH0 (fun hHeld => ?_)
          clear hH0
          clear hK K
          try simp only [Act.put, List.setIfInBounds_toArray, List.set_cons_zero, List.set_cons_succ]
          refine wpAnyH_ready (rs := [19]) (by kernel_rfl) (by simp) ?_
          refine AllReadyH.cons (o := ⟨some 58, _, _, _, _, _⟩) rfl (fun K hK => ?_) AllReadyH.nil
          refine (if_pos (by rfl)).mpr ?_
          refine wp_append_lies _ _ _ 23 rfl NB 3 iI (.int .i64 0) 1 8 Try.underlying23 hInf hy0 hy1 hy2 rfl (by decide) _ _ _ rfl (TW.symm).1 ⟨bz1, 0, none⟩ 1 1 [.int .i64 P1] rfl rfl (cz1).news (by simp [Value.oneCell']) (by decide) (by have := hpl1.out; unfold maxLen; omega) (by have := hpl1.out; omega) (by have := hHeld.size; omega) _ rfl ?_
          intro g1 c1 wy1 own1 grow1 at1 lt1
          have hH1 : Below NB w4 wy1 := hHeld.grown grow1 (by have := hHeld.size; omega) (fun j e => (TW.symm).base e)
          have TW := ((TW.symm  ).app own1 (by rw [hpa1.out]) grow1 at1).symm
          refine hK.out _ _ hH1 (fun hHeld => ?_)
          clear hH1
          clear hK K
          try simp only [Act.put, List.setIfInBounds_toArray, List.set_cons_zero, List.set_cons_succ]
          refine wpAnyH_take (i := 20) (oi := ⟨some 6, _, _, _, _, _⟩) (v := ?_) rfl (by kernel_rfl) (by kernel_rfl) (by kernel_rfl) (fun _ _ _ h => h) (Or.inl ⟨by rfl, ?_⟩) (by assumption) ?_
          rotate_left
          · intro w hSw; (try dsimp only at hSw); go_simp <;> with_reducible rfl
          try simp only [Act.put, List.setIfInBounds_toArray, List.set_cons_zero, List.set_cons_succ]
          refine wpAnyH_take (i := 21) (oi := ⟨some 7, _, _, _, _, _⟩) (v := ?_) rfl (by kernel_rfl) (by kernel_rfl) (by kernel_rfl) (fun _ _ _ h => h) (Or.inl ⟨by rfl, ?_⟩) (by assumption) ?_
          rotate_left
          · intro w hSw; (try dsimp only at hSw); go_simp <;> with_reducible rfl
          try simp only [Act.put, List.setIfInBounds_toArray, List.set_cons_zero, List.set_cons_succ]
          refine wpAnyH_done (by kernel_rfl) ?_ _
          rw [← hs0.out, ← hs1.out] at TW
          clear hst
          go_wp2_with (fail)
          refine ⟨?_, ?_⟩
          · first | exact ⟨i + 1, hKs, by go_num, TW, hHeld⟩ | ((repeat apply Exists.intro); refine ⟨?_, rfl⟩; exact ⟨i + 1, hKs, by go_num, TW, hHeld⟩)
          · simp [RowKit.intOf]; omega
        · obtain rfl : i = K := by omega
          obtain ⟨op, oq, -⟩ := TW
          rw [plc_len] at op oq
          have sp := sl_of_owns (enc := encI) (l := plcS x0.toNat i) (fun _ _ => rfl) (by rw [plc_len]; exact op)
          have sq := sl_of_owns (enc := encI) (l := plcS x1.toNat i) (fun _ _ => rfl) (by rw [plc_len]; exact oq)
          obtain ⟨gp, cp, rfl, -⟩ := ownsRow_pos op hK0.out
          obtain ⟨gq, cq, rfl, -⟩ := ownsRow_pos oq hK0.out
          have BW := B2.trans (BR.mono (by omega))
          clear op oq BR hq0 hq1
          go_wp2_with (fail)
          refine (cP.out x0.toNat _ _ (hsB.out _ BW) sp).mono ?_
          rintro r w5 ⟨va, era, rfl, b5, hans⟩
          rw [hk1.out] at hans
          obtain ⟨oa, rfl⟩ := hans
          have sp5 := hid ((Kept.of_below b5 0).sl sp)
          have sq5 := (Kept.of_below b5 0).sl sq
          have B5 := BW.trans (b5.mono (by have := BW.size; omega))
          clear sp sq b5 BW
          replace oa := hid oa
          go_wp2_with (fail)
          refine (cP.out x1.toNat _ _ (hsB.out _ B5) sq5).mono ?_
          rintro r w6 ⟨vb, erb, rfl, b6, hans⟩
          rw [hk2.out] at hans
          obtain ⟨ob, rfl⟩ := hans
          have sp6 := (Kept.of_below b6 0).sl sp5.out
          have sq6 := (Kept.of_below b6 0).sl sq5
          have oa6 := (Kept.of_below b6 0).owns oa.out
          have B6 := B5.trans (b6.mono (by have := B5.size; omega))
          clear sp5 sq5 oa b6 B5 cP
          dsimp only at oa6 ob ⊢
          rw [hla.out] at oa6
          rw [hlb.out] at ob
          have sa : Sl w6 128 keyV _ la := sl_of_owns (enc := keyV) (fun x hx => by rw [keyV_len, ka.out x hx]) (by rw [hla.out]; exact oa6)
          have sb : Sl w6 128 keyV _ lb := sl_of_owns (enc := keyV) (fun x hx => by rw [keyV_len, kb.out x hx]) (by rw [hlb.out]; exact ob)
          obtain ⟨ga, ca_, rfl, -⟩ := ownsRow_pos oa6 hK0.out
          obtain ⟨gb, cb_, rfl, -⟩ := ownsRow_pos ob hK0.out
          clear oa6 ob
          have hKB : (Try.prog.info? 43).map (·.size) = some 128 := by kernel_rfl
          have hKe : (Try.prog.info? 48).map (·.size) = some 35 := by kernel_rfl
          obtain ⟨sv1, hsv1, hsv1s, -⟩ := slice_take 24 43 128 Try.underlying24 hKB (k := M) (by rw [hla.out]; exact hMi.out) sa
          obtain ⟨sv2, hsv2, hsv2s, -⟩ := slice_take 24 43 128 Try.underlying24 hKB (k := M1) (by rw [hla.out]; exact hM1i.out) sa
          have cU1 := hid (fun W (h : Sl W 128 keyV (.slice (some ⟨ga, 0, none⟩) i ca_) la) => Unpack_any (la.take M) sv1 W (hsv1s W h) (fun x hx => ka.out x (List.mem_of_mem_take hx)) lt1.out)
          have cU2 := hid (fun W (h : Sl W 128 keyV (.slice (some ⟨ga, 0, none⟩) i ca_) la) => Unpack_any (la.take M1) sv2 W (hsv2s W h) (fun x hx => ka.out x (List.mem_of_mem_take hx)) lt2.out)
          rw [u1.out] at cU1
          rw [u2.out] at cU2
          replace hsv1 := hid hsv1
          replace hsv2 := hid hsv2
          have sa6 := hid sa
          have sb6 := hid sb
          have sp6' := hid sp6
          have sq6' := hid sq6
          have hKI1' := hKI1.out
          have hKw1' := hKw1.out
          have hKw2' := hKw2.out
          clear hsv1s hsv2s sa sb sp6 sq6
          go_wp2_with (refine wpList_slice rfl 24 _ _ _ rfl sv1 hsv1.out ?_)
          refine (cU1.out _ sa6.out).mono ?_
          rintro r w7 ⟨vm, erm, rfl, b7, om, rfl⟩
          have sm := sl_of_owns (enc := encE) (l := l) (fun y hy => by rw [encE_len, hk y hy]) om
          obtain ⟨pm, cm, rfl, -, -⟩ := owns_shape om
          rw [hL.out] at sm ⊢
          have sa7 := (Kept.of_below b7 0).sl sa6.out
          have sb7 := (Kept.of_below b7 0).sl sb6.out
          have sp7 := (Kept.of_below b7 0).sl sp6'.out
          have sq7 := (Kept.of_below b7 0).sl sq6'.out
          have B7 := B6.trans (b7.mono (by have := B6.size; omega))
          clear b7 sa6 sb6 sp6' sq6' B6 om cU1 hsv1
          have Bd : Below n₀ w w7.drew := B7.drewN 1
          obtain ⟨sva, svb, svp, svq, hva, hvb, hvp, hvq, cE, cB, cI, hraL, hrbL⟩ := back_calls (W0 := w7.drew) hL.out hfew hk hMi.out hK1000.out sm (hsB.out _ Bd) sa7 sb7 hla.out hlb.out ka.out kb.out sp7 sq7 (plc_len _ _) (plc_len _ _) hab.out hdp.out gra.out grb.out
          have hst : Below w7.drew.heap.size w7.drew w7.drew := Below.refl _ _
          have sad' := hid (fun W (h : Below w7.drew.heap.size w7.drew W) => (Kept.of_below h 0).sl (show Sl w7.drew 128 keyV (.slice (some ⟨ga, 0, none⟩) i ca_) la from sa7))
          have hqe' := hqe.out
          have hMI' := hMI.out
          have hM0' := hM0.out
          have hi1 := hiraB.out
          have hi2 := hirbB.out
          replace hva := hid hva
          replace hvb := hid hvb
          replace hvp := hid hvp
          replace hvq := hid hvq
          replace cE := hid cE
          replace cB := hid cB
          replace cI := hid cI
          replace hraL := hid hraL
          replace hrbL := hid hrbL
          replace hk := hid hk
          clear sm sa7 sb7 sp7 sq7 B7
          go_upto_region 18 with (fail)
          go_cut [142] (fun c wx => c = .bool false ∧ Below w7.drew.heap.size w7.drew wx)
          case first => as_aux_lemma =>
            clear hs hsB hL hrb hsz hM hM' hk1 hk2 hio hG hK B2 Bd hk h0 h0I cU2 hsv2 sad' hne
            refine wp_region_held_drew (S := (fun W => Below w7.drew.heap.size w7.drew W)) (by kernel_rfl) hst (fun hHeld => ?_)
            generalize w7.drew = wa at *
            refine wpAnyH_take (i := 0) (oi := ⟨some 100, _, _, _, _, _⟩) (v := ?_) rfl (by kernel_rfl) (by kernel_rfl) (by kernel_rfl) (fun _ _ _ h => h) (Or.inl ⟨by rfl, ?_⟩) (by assumption) ?_
            rotate_left
            · intro w hSw; (try dsimp only at hSw); go_simp <;> with_reducible rfl
            try simp only [Act.put, List.setIfInBounds_toArray, List.set_cons_zero, List.set_cons_succ]
            refine wpAnyH_take (i := 1) (oi := ⟨some 101, _, _, _, _, _⟩) (v := ?_) rfl (by kernel_rfl) (by kernel_rfl) (by kernel_rfl) (fun _ _ _ h => h) (Or.inl ⟨by rfl, ?_⟩) (by assumption) ?_
            rotate_left
            · intro w hSw; (try dsimp only at hSw); go_simp <;> with_reducible rfl
            try simp only [Act.put, List.setIfInBounds_toArray, List.set_cons_zero, List.set_cons_succ]
            refine wpAnyH_take (i := 2) (oi := ⟨some 102, _, _, _, _, _⟩) (v := ?_) rfl (by kernel_rfl) (by kernel_rfl) (by kernel_rfl) (fun _ _ _ h => h) (Or.inl ⟨by rfl, ?_⟩) (by assumption) ?_
            rotate_left
            · intro w hSw; (try dsimp only at hSw); go_simp <;> with_reducible rfl
            try simp only [Act.put, List.setIfInBounds_toArray, List.set_cons_zero, List.set_cons_succ]
            refine wpAnyH_take (i := 3) (oi := ⟨some 103, _, _, _, _, _⟩) (v := ?_) rfl (by kernel_rfl) (by kernel_rfl) (by kernel_rfl) (fun _ _ _ h => h) (Or.inl ⟨by rfl, ?_⟩) (by assumption) ?_
            rotate_left
            · intro w hSw; (try dsimp only at hSw); go_simp <;> with_reducible rfl
            try simp only [Act.put, List.setIfInBounds_toArray, List.set_cons_zero, List.set_cons_succ]
            refine wpAnyH_take (i := 4) (oi := ⟨some 104, _, _, _, _, _⟩) (v := ?_) rfl (by kernel_rfl) (by kernel_rfl) (by kernel_rfl) (fun _ _ _ h => h) (Or.inl ⟨by rfl, ?_⟩) (by assumption) ?_
            rotate_left
            · intro w hSw; (try dsimp only at hSw); go_simp <;> with_reducible rfl
            try simp only [Act.put, List.setIfInBounds_toArray, List.set_cons_zero, List.set_cons_succ]
            refine wpAnyH_ready (rs := [5]) (by kernel_rfl) (by simp) ?_
            refine AllReadyH.cons (o := ⟨some 105, _, _, _, _, _⟩) rfl (fun K hK => ?_) AllReadyH.nil
            go_simp
            refine (cE.out _ hHeld).mono ?_
            rintro r w7 ⟨rfl, b7⟩
            have b8 := hHeld.trans (b7.mono hHeld.size)
            clear hHeld b7
            refine hK.out _ _ (b8) (fun hHeld => ?_)
            clear hK K
            try simp only [Act.put, List.setIfInBounds_toArray, List.set_cons_zero, List.set_cons_succ]
            refine wpAnyH_take (i := 6) (oi := ⟨some 106, _, _, _, _, _⟩) (v := ?_) rfl (by kernel_rfl) (by kernel_rfl) (by kernel_rfl) (fun _ _ _ h => h) (Or.inl ⟨by rfl, ?_⟩) (by assumption) ?_
            rotate_left
            · intro w hSw; (try dsimp only at hSw); go_simp <;> with_reducible rfl
            try simp only [Act.put, List.setIfInBounds_toArray, List.set_cons_zero, List.set_cons_succ]
            refine wpAnyH_take (i := 7) (oi := ⟨some 107, _, _, _, _, _⟩) (v := ?_) rfl (by kernel_rfl) (by kernel_rfl) (by kernel_rfl) (fun _ _ _ h => h) (Or.inl ⟨by rfl, ?_⟩) (by assumption) ?_
            rotate_left
            · intro w hSw; (try dsimp only at hSw); go_simp <;> with_reducible rfl
            try simp only [Act.put, List.setIfInBounds_toArray, List.set_cons_zero, List.set_cons_succ]
            refine wpAnyH_take (i := 8) (oi := ⟨some 108, _, _, _, _, _⟩) (v := ?_) rfl (by kernel_rfl) (by kernel_rfl) (by kernel_rfl) (fun _ _ _ h => h) (Or.inl ⟨by rfl, ?_⟩) (by assumption) ?_
            rotate_left
            · intro w hSw; (try dsimp only at hSw); go_simp <;> with_reducible rfl
            try simp only [Act.put, List.setIfInBounds_toArray, List.set_cons_zero, List.set_cons_succ]
            refine wpAnyH_take (i := 9) (oi := ⟨some 109, _, _, _, _, _⟩) (v := ?_) rfl (by kernel_rfl) (by kernel_rfl) (by kernel_rfl) (fun _ _ _ h => h) (Or.inl ⟨by rfl, ?_⟩) (by assumption) ?_
            rotate_left
            · intro w hSw; (try dsimp only at hSw); go_simp <;> with_reducible rfl
            try simp only [Act.put, List.setIfInBounds_toArray, List.set_cons_zero, List.set_cons_succ]
            refine wpAnyH_take (i := 10) (oi := ⟨some 110, _, _, _, _, _⟩) (v := ?_) rfl (by kernel_rfl) (by kernel_rfl) (by kernel_rfl) (fun _ _ _ h => h) (Or.inl ⟨by rfl, ?_⟩) (by assumption) ?_
            rotate_left
            · intro w hSw; (try dsimp only at hSw); go_simp <;> with_reducible rfl
            try simp only [Act.put, List.setIfInBounds_toArray, List.set_cons_zero, List.set_cons_succ]
            refine wpAnyH_take (i := 11) (oi := ⟨some 111, _, _, _, _, _⟩) (v := ?_) rfl (by kernel_rfl) (by kernel_rfl) (by kernel_rfl) (fun _ _ _ h => h) (Or.inl ⟨by rfl, ?_⟩) (by assumption) ?_
            rotate_left
            · intro w hSw; (try dsimp only at hSw); go_simp <;> with_reducible rfl
            try simp only [Act.put, List.setIfInBounds_toArray, List.set_cons_zero, List.set_cons_succ]
            refine wpAnyH_take (i := 12) (oi := ⟨some 112, _, _, _, _, _⟩) rfl (by kernel_rfl) (by kernel_rfl) (by kernel_rfl) (fun _ _ _ h => h) (yieldsIf_slice (by rfl) 24 _ _ _ rfl sva (by exact hva.out)) (by assumption) ?_
            try simp only [Act.put, List.setIfInBounds_toArray, List.set_cons_zero, List.set_cons_succ]
            refine wpAnyH_take (i := 13) (oi := ⟨some 113, _, _, _, _, _⟩) (v := ?_) rfl (by kernel_rfl) (by kernel_rfl) (by kernel_rfl) (fun _ _ _ h => h) (Or.inl ⟨by rfl, ?_⟩) (by assumption) ?_
            rotate_left
            · intro w hSw; (try dsimp only at hSw); go_simp <;> with_reducible rfl
            try simp only [Act.put, List.setIfInBounds_toArray, List.set_cons_zero, List.set_cons_succ]
            refine wpAnyH_take (i := 14) (oi := ⟨some 114, _, _, _, _, _⟩) (v := ?_) rfl (by kernel_rfl) (by kernel_rfl) (by kernel_rfl) (fun _ _ _ h => h) (Or.inl ⟨by rfl, ?_⟩) (by assumption) ?_
            rotate_left
            · intro w hSw; (try dsimp only at hSw); go_simp <;> with_reducible rfl
            try simp only [Act.put, List.setIfInBounds_toArray, List.set_cons_zero, List.set_cons_succ]
            refine wpAnyH_take (i := 15) (oi := ⟨some 115, _, _, _, _, _⟩) (v := ?_) rfl (by kernel_rfl) (by kernel_rfl) (by kernel_rfl) (fun _ _ _ h => h) (Or.inl ⟨by rfl, ?_⟩) (by assumption) ?_
            rotate_left
            · intro w hSw; (try dsimp only at hSw); go_simp <;> with_reducible rfl
            try simp only [Act.put, List.setIfInBounds_toArray, List.set_cons_zero, List.set_cons_succ]
            refine wpAnyH_take (i := 16) (oi := ⟨some 116, _, _, _, _, _⟩) rfl (by kernel_rfl) (by kernel_rfl) (by kernel_rfl) (fun _ _ _ h => h) (yieldsIf_slice (by rfl) 24 _ _ _ rfl svb (by exact hvb.out)) (by assumption) ?_
            try simp only [Act.put, List.setIfInBounds_toArray, List.set_cons_zero, List.set_cons_succ]
            refine wpAnyH_ready (rs := [17]) (by kernel_rfl) (by simp) ?_
            refine AllReadyH.cons (o := ⟨some 117, _, _, _, _, _⟩) rfl (fun K hK => ?_) AllReadyH.nil
            go_simp
            refine (cB.out _ hHeld).mono ?_
            rintro r w7 ⟨rfl, b7⟩
            have b8 := hHeld.trans (b7.mono hHeld.size)
            clear hHeld b7
            refine hK.out _ _ (b8) (fun hHeld => ?_)
            clear hK K
            try simp only [Act.put, List.setIfInBounds_toArray, List.set_cons_zero, List.set_cons_succ]
            refine wpAnyH_take (i := 18) (oi := ⟨some 118, _, _, _, _, _⟩) (v := ?_) rfl (by kernel_rfl) (by kernel_rfl) (by kernel_rfl) (fun _ _ _ h => h) (Or.inl ⟨by rfl, ?_⟩) (by assumption) ?_
            rotate_left
            · intro w hSw; (try dsimp only at hSw); go_simp <;> with_reducible rfl
            try simp only [Act.put, List.setIfInBounds_toArray, List.set_cons_zero, List.set_cons_succ]
            refine wpAnyH_take (i := 19) (oi := ⟨some 119, _, _, _, _, _⟩) (v := ?_) rfl (by kernel_rfl) (by kernel_rfl) (by kernel_rfl) (fun _ _ _ h => h) (Or.inl ⟨by rfl, ?_⟩) (by assumption) ?_
            rotate_left
            · intro w hSw; (try dsimp only at hSw); go_simp <;> with_reducible rfl
            try simp only [Act.put, List.setIfInBounds_toArray, List.set_cons_zero, List.set_cons_succ]
            refine wpAnyH_take (i := 20) (oi := ⟨some 120, _, _, _, _, _⟩) (v := ?_) rfl (by kernel_rfl) (by kernel_rfl) (by kernel_rfl) (fun _ _ _ h => h) (Or.inl ⟨by rfl, ?_⟩) (by assumption) ?_
            rotate_left
            · intro w hSw; (try dsimp only at hSw); go_simp <;> with_reducible rfl
            try simp only [Act.put, List.setIfInBounds_toArray, List.set_cons_zero, List.set_cons_succ]
            refine wpAnyH_take (i := 21) (oi := ⟨some 121, _, _, _, _, _⟩) (v := ?_) rfl (by kernel_rfl) (by kernel_rfl) (by kernel_rfl) (fun _ _ _ h => h) (Or.inl ⟨by rfl, ?_⟩) (by assumption) ?_
            rotate_left
            · intro w hSw; (try dsimp only at hSw); go_simp <;> with_reducible rfl
            try simp only [Act.put, List.setIfInBounds_toArray, List.set_cons_zero, List.set_cons_succ]
            refine wpAnyH_take (i := 22) (oi := ⟨some 122, _, _, _, _, _⟩) (v := ?_) rfl (by kernel_rfl) (by kernel_rfl) (by kernel_rfl) (fun _ _ _ h => h) (Or.inl ⟨by rfl, ?_⟩) (by assumption) ?_
            rotate_left
            · intro w hSw; (try dsimp only at hSw); go_simp <;> with_reducible rfl
            try simp only [Act.put, List.setIfInBounds_toArray, List.set_cons_zero, List.set_cons_succ]
            refine wpAnyH_take (i := 23) (oi := ⟨some 123, _, _, _, _, _⟩) (v := ?_) rfl (by kernel_rfl) (by kernel_rfl) (by kernel_rfl) (fun _ _ _ h => h) (Or.inl ⟨by rfl, ?_⟩) (by assumption) ?_
            rotate_left
            · intro w hSw; (try dsimp only at hSw); go_simp <;> with_reducible rfl
            try simp only [Act.put, List.setIfInBounds_toArray, List.set_cons_zero, List.set_cons_succ]
            refine wpAnyH_take (i := 24) (oi := ⟨some 124, _, _, _, _, _⟩) (v := ?_) rfl (by kernel_rfl) (by kernel_rfl) (by kernel_rfl) (fun _ _ _ h => h) (Or.inl ⟨by rfl, ?_⟩) (by assumption) ?_
            rotate_left
            · intro w hSw; (try dsimp only at hSw); go_simp <;> with_reducible rfl
            try simp only [Act.put, List.setIfInBounds_toArray, List.set_cons_zero, List.set_cons_succ]
            refine wpAnyH_take (i := 25) (oi := ⟨some 125, _, _, _, _, _⟩) rfl (by kernel_rfl) (by kernel_rfl) (by kernel_rfl) (fun _ _ _ h => h) (yieldsIf_load_mid (by rfl) 43 _ rfl ga (M * 128) rfl (keyV ra) _ (fun w h => hraL.out w h) Try.underlying43 rfl hi1) (by assumption) ?_
            try simp only [Act.put, List.setIfInBounds_toArray, List.set_cons_zero, List.set_cons_succ]
            refine wpAnyH_take (i := 26) (oi := ⟨some 126, _, _, _, _, _⟩) (v := ?_) rfl (by kernel_rfl) (by kernel_rfl) (by kernel_rfl) (fun _ _ _ h => h) (Or.inl ⟨by rfl, ?_⟩) (by assumption) ?_
            rotate_left
            · intro w hSw; (try dsimp only at hSw); go_simp <;> with_reducible rfl
            try simp only [Act.put, List.setIfInBounds_toArray, List.set_cons_zero, List.set_cons_succ]
            refine wpAnyH_take (i := 27) (oi := ⟨some 127, _, _, _, _, _⟩) (v := ?_) rfl (by kernel_rfl) (by kernel_rfl) (by kernel_rfl) (fun _ _ _ h => h) (Or.inl ⟨by rfl, ?_⟩) (by assumption) ?_
            rotate_left
            · intro w hSw; (try dsimp only at hSw); go_simp <;> with_reducible rfl
            try simp only [Act.put, List.setIfInBounds_toArray, List.set_cons_zero, List.set_cons_succ]
            refine wpAnyH_take (i := 28) (oi := ⟨some 128, _, _, _, _, _⟩) (v := ?_) rfl (by kernel_rfl) (by kernel_rfl) (by kernel_rfl) (fun _ _ _ h => h) (Or.inl ⟨by rfl, ?_⟩) (by assumption) ?_
            rotate_left
            · intro w hSw; (try dsimp only at hSw); go_simp <;> with_reducible rfl
            try simp only [Act.put, List.setIfInBounds_toArray, List.set_cons_zero, List.set_cons_succ]
            refine wpAnyH_take (i := 29) (oi := ⟨some 129, _, _, _, _, _⟩) (v := ?_) rfl (by kernel_rfl) (by kernel_rfl) (by kernel_rfl) (fun _ _ _ h => h) (Or.inl ⟨by rfl, ?_⟩) (by assumption) ?_
            rotate_left
            · intro w hSw; (try dsimp only at hSw); go_simp <;> with_reducible rfl
            try simp only [Act.put, List.setIfInBounds_toArray, List.set_cons_zero, List.set_cons_succ]
            refine wpAnyH_take (i := 30) (oi := ⟨some 130, _, _, _, _, _⟩) rfl (by kernel_rfl) (by kernel_rfl) (by kernel_rfl) (fun _ _ _ h => h) (yieldsIf_load_mid (by rfl) 43 _ rfl gb (M * 128) rfl (keyV rb) _ (fun w h => hrbL.out w h) Try.underlying43 rfl hi2) (by assumption) ?_
            try simp only [Act.put, List.setIfInBounds_toArray, List.set_cons_zero, List.set_cons_succ]
            refine wpAnyH_take (i := 31) (oi := ⟨some 131, _, _, _, _, _⟩) (v := ?_) rfl (by kernel_rfl) (by kernel_rfl) (by kernel_rfl) (fun _ _ _ h => h) (Or.inl ⟨by rfl, ?_⟩) (by assumption) ?_
            rotate_left
            · intro w hSw; (try dsimp only at hSw); go_simp <;> with_reducible rfl
            try simp only [Act.put, List.setIfInBounds_toArray, List.set_cons_zero, List.set_cons_succ]
            refine wpAnyH_take (i := 32) (oi := ⟨some 132, _, _, _, _, _⟩) (v := ?_) rfl (by kernel_rfl) (by kernel_rfl) (by kernel_rfl) (fun _ _ _ h => h) (Or.inl ⟨by rfl, ?_⟩) (by assumption) ?_
            rotate_left
            · intro w hSw; (try dsimp only at hSw); go_simp <;> with_reducible rfl
            try simp only [Act.put, List.setIfInBounds_toArray, List.set_cons_zero, List.set_cons_succ]
            refine wpAnyH_take (i := 33) (oi := ⟨some 133, _, _, _, _, _⟩) (v := ?_) rfl (by kernel_rfl) (by kernel_rfl) (by kernel_rfl) (fun _ _ _ h => h) (Or.inl ⟨by rfl, ?_⟩) (by assumption) ?_
            rotate_left
            · intro w hSw; (try dsimp only at hSw); go_simp <;> with_reducible rfl
            try simp only [Act.put, List.setIfInBounds_toArray, List.set_cons_zero, List.set_cons_succ]
            refine wpAnyH_take (i := 34) (oi := ⟨some 134, _, _, _, _, _⟩) (v := ?_) rfl (by kernel_rfl) (by kernel_rfl) (by kernel_rfl) (fun _ _ _ h => h) (Or.inl ⟨by rfl, ?_⟩) (by assumption) ?_
            rotate_left
            · intro w hSw; (try dsimp only at hSw); go_simp <;> with_reducible rfl
            try simp only [Act.put, List.setIfInBounds_toArray, List.set_cons_zero, List.set_cons_succ]
            refine wpAnyH_take (i := 35) (oi := ⟨some 135, _, _, _, _, _⟩) rfl (by kernel_rfl) (by kernel_rfl) (by kernel_rfl) (fun _ _ _ h => h) (yieldsIf_slice (by rfl) 23 _ _ _ rfl svp (by exact hvp.out)) (by assumption) ?_
            try simp only [Act.put, List.setIfInBounds_toArray, List.set_cons_zero, List.set_cons_succ]
            refine wpAnyH_take (i := 36) (oi := ⟨some 136, _, _, _, _, _⟩) (v := ?_) rfl (by kernel_rfl) (by kernel_rfl) (by kernel_rfl) (fun _ _ _ h => h) (Or.inl ⟨by rfl, ?_⟩) (by assumption) ?_
            rotate_left
            · intro w hSw; (try dsimp only at hSw); go_simp <;> with_reducible rfl
            try simp only [Act.put, List.setIfInBounds_toArray, List.set_cons_zero, List.set_cons_succ]
            refine wpAnyH_take (i := 37) (oi := ⟨some 137, _, _, _, _, _⟩) (v := ?_) rfl (by kernel_rfl) (by kernel_rfl) (by kernel_rfl) (fun _ _ _ h => h) (Or.inl ⟨by rfl, ?_⟩) (by assumption) ?_
            rotate_left
            · intro w hSw; (try dsimp only at hSw); go_simp <;> with_reducible rfl
            try simp only [Act.put, List.setIfInBounds_toArray, List.set_cons_zero, List.set_cons_succ]
            refine wpAnyH_take (i := 38) (oi := ⟨some 138, _, _, _, _, _⟩) (v := ?_) rfl (by kernel_rfl) (by kernel_rfl) (by kernel_rfl) (fun _ _ _ h => h) (Or.inl ⟨by rfl, ?_⟩) (by assumption) ?_
            rotate_left
            · intro w hSw; (try dsimp only at hSw); go_simp <;> with_reducible rfl
            try simp only [Act.put, List.setIfInBounds_toArray, List.set_cons_zero, List.set_cons_succ]
            refine wpAnyH_take (i := 39) (oi := ⟨some 139, _, _, _, _, _⟩) rfl (by kernel_rfl) (by kernel_rfl) (by kernel_rfl) (fun _ _ _ h => h) (yieldsIf_slice (by rfl) 23 _ _ _ rfl svq (by exact hvq.out)) (by assumption) ?_
            try simp only [Act.put, List.setIfInBounds_toArray, List.set_cons_zero, List.set_cons_succ]
            refine wpAnyH_ready (rs := [40]) (by kernel_rfl) (by simp) ?_
            refine AllReadyH.cons (o := ⟨some 140, _, _, _, _, _⟩) rfl (fun K hK => ?_) AllReadyH.nil
            go_simp
            refine (cI.out _ hHeld).mono ?_
            rintro r w7 ⟨rfl, b7⟩
            have b8 := hHeld.trans (b7.mono hHeld.size)
            clear hHeld b7
            refine hK.out _ _ (b8) (fun hHeld => ?_)
            clear hK K
            try simp only [Act.put, List.setIfInBounds_toArray, List.set_cons_zero, List.set_cons_succ]
            refine wpAnyH_take (i := 41) (oi := ⟨some 141, _, _, _, _, _⟩) (v := ?_) rfl (by kernel_rfl) (by kernel_rfl) (by kernel_rfl) (fun _ _ _ h => h) (Or.inl ⟨by rfl, ?_⟩) (by assumption) ?_
            rotate_left
            · intro w hSw; (try dsimp only at hSw); go_simp <;> with_reducible rfl
            try simp only [Act.put, List.setIfInBounds_toArray, List.set_cons_zero, List.set_cons_succ]
            refine wpAnyH_take (i := 42) (oi := ⟨some 142, _, _, _, _, _⟩) (v := ?_) rfl (by kernel_rfl) (by kernel_rfl) (by kernel_rfl) (fun _ _ _ h => h) (Or.inl ⟨by rfl, ?_⟩) (by assumption) ?_
            rotate_left
            · intro w hSw; (try dsimp only at hSw); go_simp <;> with_reducible rfl
            try simp only [Act.put, List.setIfInBounds_toArray, List.set_cons_zero, List.set_cons_succ]
            refine wpAnyH_done (by kernel_rfl) ?_ _
            go_wp2_with (fail)
            go_meet
            case rel => exact ⟨rfl, hHeld⟩
          case rest =>
          obtain ⟨rfl, B18⟩ := hcut
          have BR : Below n₀ w wc := Bd.trans (B18.mono (by have := Bd.size; omega))
          have sa9 := sad'.out _ B18
          clear hst hva hvb hvp hvq cE cB cI hraL hrbL hqe' sad' Bd B18
          go_wp2_with (refine wpList_slice rfl 24 _ _ _ rfl sv2 hsv2.out ?_)
          refine (cU2.out _ sa9).mono ?_
          rintro r w10 ⟨vo, ero, rfl, b10, oo, rfl⟩
          rw [hlt1.out] at oo
          have so : Sl w10 35 encE vo (l.take Z) := sl_of_owns (enc := encE) (l := l.take Z) (fun y hy => by rw [encE_len, hk.out y (List.mem_of_mem_take hy)]) (by rw [hlt1.out]; exact oo)
          obtain ⟨po, co, rfl, -, -⟩ := owns_shape oo
          have B10 := BR.trans (b10.mono (by have := BR.size; omega))
          have s10 := hsB.out _ B10
          obtain ⟨vl, hvl, hvls, -⟩ := slice_take 22 48 35 Try.underlying22 hKe (k := Z) (by rw [hL.out]; exact hZL.out) s10
          have cE3 := hid (Entries_any (l.take Z) (l.take Z) _ vl w10 so (hvls _ s10) (fun e he => hk.out e (List.mem_of_mem_take he)) (fun e he => hk.out e (List.mem_of_mem_take he)) (by rw [hlt1.out]; exact hZ6.out) (by rw [hlt1.out]; exact hZ9.out))
          rw [decide_eq_true (rfl : l.take Z = l.take Z)] at cE3
          have hZw' := hZw.out
          have hZm' : min (L : Int) (Z : Int) = (Z : Int) := by have := hZm.out; omega
          replace hvl := hid hvl
          clear so s10 hvls oo b10 BR sa9 cU2 hsv2
          go_wp2_with (refine wpList_slice_w (by rfl) 22 _ _ _ rfl vl hvl.out ?_)
          refine cE3.out.mono ?_
          rintro r w11 ⟨rfl, b11⟩
          have B11 := B10.trans (b11.mono (by have := B10.size; omega))
          clear b11 B10 cE3
          go_wp2_with (fail)
          refine (wakes_any _).mono ?_
          rintro r w4 ⟨rfl, b4⟩
          have B4 := B11.trans (b4.mono (by have := B11.size; omega))
          clear b4
          go_wp2_with (fail)
          go_ret
          subst hn₀
          exact ⟨rfl, B4⟩
end Go.Proofs.Ytomgjapjeckokaa
namespace Go.Proofs.Ytomgjapjeckokaa
open Go.ChangeShapes Go.WideShapes Go.ChangeAt Go.RowKit

section
variable {H : Type} {enc : TypeId × Value → H} {P : Program}
/-- a slice of rows that came in, each read by its own law -/
theorem open_rows {α : Type} [Inhabited α] {ec : α → List Value} {Pr : α → Prop} {t e : TypeId} {n : Nat} {W : World} {base : Nat} {v : Value} {d : DataW H} {p : List MemPlace} (ht : P.underlying t = some (.slice e)) (hce : P.cellsOf e = n) (hn : 0 < n)
    (hone : ∀ (fuel : Nat) (cs : List Value) (x : DataW H × List MemPlace), cs.length = n → DataW.trod enc P W 0 (fun _ => true) true fuel e cs = some x → ∃ y : α, cs = ec y ∧ Pr y)
    (hok : Value.okWide P W .any base t v) (h : DataW.Trod enc P W 0 (fun _ => true) true t v d p) : ∃ l : List α, (∀ y ∈ l, Pr y) ∧ Sl W n ec v l := by
  obtain ⟨a0, len, cap, rfl⟩ := okWide_slice ht hok
  obtain ⟨fuel, hf⟩ := h
  rcases Go.Deep.open_slice ht hf with ⟨hcs, hx⟩ | ⟨a, len', cap', m, nf, D, Pl, hcs, -, hl, hm, hmm, hx, hcell⟩
  · simp [Value.cells] at hcs
    obtain ⟨rfl, rfl, rfl⟩ := hcs
    exact ⟨[], by simp, .inl ⟨rfl, rfl⟩⟩
  · simp [Value.cells] at hcs
    obtain ⟨rfl, rfl, rfl⟩ := hcs
    simp only [if_true] at hmm
    subst hmm
    rw [hce] at hcell
    have one : ∀ i, i < len → ∃ y : α, Pr y ∧ (i = 0 → a.spot = none) ∧ (a.spot = none → W.rangeAt a.block (a.off + i * n) (ec y)) := by
      intro i hi
      obtain ⟨cs', h1, h2⟩ := hcell i (by omega)
      obtain ⟨-, hlen, hc⟩ := World.cells?_some h1
      obtain ⟨y, hy, hp⟩ := hone _ cs' _ hlen h2
      refine ⟨y, hp, ?_, fun hsp j w hw => ?_⟩
      · intro hi0
        subst hi0
        have h4 := hc 0 hn
        rw [Nat.zero_mul, List.getElem?_eq_getElem (by omega)] at h4
        exact add_zero_spot h4
      · have hj : j < n := by
          have h9 := (List.getElem?_eq_some_iff.1 hw).1
          rw [← hy, hlen] at h9
          exact h9
        have h4 := hc j hj
        rw [hy, hw, add_two a hsp] at h4
        exact h4
    obtain ⟨g, hg⟩ := Go.Deep.choose_lt (α := α) one
    refine ⟨(List.range len).map g, fun x hx => ?_, ?_⟩
    · obtain ⟨i, hi, rfl⟩ := List.mem_map.1 hx
      exact (hg i (by simpa using hi)).1
    · have hs0 : (List.range len).map g ≠ [] → a.spot = none := fun hne => by
        have h0 : 0 < len := by
          cases len with
          | zero => simp at hne
          | succ k => omega
        exact (hg 0 h0).2.1 rfl
      refine .inr ⟨a, _, by simp, by simpa using hl, hm, hs0, fun i x hi => ?_⟩
      have hlt : i < len := by
        have := (List.getElem?_eq_some_iff.1 hi).1
        simpa using this
      have : x = g i := by
        simp [hlt] at hi
        exact hi.symm
      rw [this]
      exact (hg i hlt).2.2 (hs0 (by cases len with | zero => exact absurd hlt (Nat.not_lt_zero _) | succ k => simp))

/-- the cells of an array of bytes that came in -/
theorem bytes_of {W : World} {e u n : Nat} {fuel : Nat} {cs : List Value} {x : DataW H × List MemPlace} (he : P.underlying e = some (.array n u)) (hu : P.underlying u = some (.int .u8)) (hcu : P.cellsOf u = 1) (hcl : cs.length = n)
    (h : DataW.trod enc P W 0 (fun _ => true) true fuel e cs = some x) : ∃ l : List UInt8, cs = keyV l ∧ l.length = n := by
  obtain ⟨xs, mm, -, -, hl2, hl3, hall⟩ := DataW.trod_array he h
  rw [hcu] at hall
  have each : ∀ j, j < n → ∃ y : UInt8, cs[j]? = some (.int .u8 (y.toNat : Int)) := by
    intro j hj
    have h3 := hall j hj
    rw [List.getElem?_eq_getElem (by rw [hl3]; exact hj)] at h3
    obtain ⟨y, hy1, -, hy2⟩ := DataW.trod_int hu h3
    have hy3 : 0 ≤ y ∧ y ≤ 255 := by simpa [Lit.wf, show IntKind.u8.min = 0 from rfl, show IntKind.u8.max = 255 from rfl] using hy2
    refine ⟨UInt8.ofNat y.toNat, ?_⟩
    have h4 : ((cs.drop (j * 1)).take 1)[0]? = some (.int .u8 y) := by rw [hy1]; rfl
    have h5 : cs[j]? = some (.int .u8 y) := by simpa using h4
    rw [h5, UInt8.toNat_ofNat']
    congr 2
    omega
  obtain ⟨f, hf2⟩ := Go.Deep.choose_lt (α := UInt8) each
  refine ⟨(List.range n).map f, List.ext_getElem? fun j => ?_, by simp⟩
  by_cases hj : j < n
  · rw [hf2 j hj]
    unfold keyV
    rw [List.map_map, List.getElem?_map, List.getElem?_range hj]; rfl
  · rw [List.getElem?_eq_none (by omega), List.getElem?_eq_none (by unfold keyV; simp; omega)]
end
instance : Inhabited Ent := ⟨⟨[], 0, 0, 0⟩⟩
theorem wfI {n : Int} (h : (Lit.int .i64 n).wf = true) : -9223372036854775808 ≤ n ∧ n ≤ 9223372036854775807 := by
  simpa [Lit.wf, show IntKind.i64.min = -9223372036854775808 from rfl, show IntKind.i64.max = 9223372036854775807 from rfl] using h
set_option maxRecDepth 100000 in
theorem ent_of {H : Type} {enc : TypeId × Value → H} {W : World} {fuel : Nat} {cs : List Value} {x : DataW H × List MemPlace} (hcs : cs.length = 35) (h : DataW.trod enc Try.prog W 0 (fun _ => true) true fuel 48 cs = some x) : ∃ e : Ent, cs = encE e ∧ intOkE e := by
  have hC1 : Try.prog.cellsOf 3 = 1 := by kernel_rfl
  have hC2 : Try.prog.cellsOf 46 = 32 := by kernel_rfl
  obtain ⟨xs, n, -, -, -, hlen, hff⟩ := DataW.trod_struct Try.underlying48 h
  match xs, hlen with
  | [y0, y1, y2, y3], _ =>
  have g0 : DataW.trod enc Try.prog W 0 (fun _ => true) true n 46 (List.take (Try.prog.cellsOf 46) (List.drop 0 cs)) = some y0 := hff 0 _ rfl
  have g1 : DataW.trod enc Try.prog W 0 (fun _ => true) true n 3 (List.take (Try.prog.cellsOf 3) (List.drop 32 cs)) = some y1 := hff 1 _ rfl
  have g2 : DataW.trod enc Try.prog W 0 (fun _ => true) true n 3 (List.take (Try.prog.cellsOf 3) (List.drop 33 cs)) = some y2 := hff 2 _ rfl
  have g3 : DataW.trod enc Try.prog W 0 (fun _ => true) true n 3 (List.take (Try.prog.cellsOf 3) (List.drop 34 cs)) = some y3 := hff 3 _ rfl
  rw [hC2] at g0
  rw [hC1] at g1 g2 g3
  obtain ⟨k, hk, hkl⟩ := bytes_of Try.underlying46 Try.underlying5 (by kernel_rfl) (by simp; omega) g0
  obtain ⟨n1, e1, -, w1⟩ := DataW.trod_int Try.underlying3 g1
  obtain ⟨n2, e2, -, w2⟩ := DataW.trod_int Try.underlying3 g2
  obtain ⟨n3, e3, -, w3⟩ := DataW.trod_int Try.underlying3 g3
  refine ⟨⟨k, n1, n2, n3⟩, ?_, hkl, (wfI w1).1, (wfI w1).2, (wfI w2).1, (wfI w2).2⟩
  have d3 : cs.drop 34 = [.int .i64 n3] := by
    rw [← e3, List.take_of_length_le (by simp; omega)]
  have d2 : cs.drop 33 = [.int .i64 n2, .int .i64 n3] := by
    have h9 := List.take_append_drop 1 (cs.drop 33)
    rw [e2, List.drop_drop, d3] at h9
    exact h9.symm
  have d1 : cs.drop 32 = [.int .i64 n1, .int .i64 n2, .int .i64 n3] := by
    have h9 := List.take_append_drop 1 (cs.drop 32)
    rw [e1, List.drop_drop, d2] at h9
    exact h9.symm
  have h9 := List.take_append_drop 32 cs
  rw [List.drop_zero] at hk
  rw [hk, d1] at h9
  exact h9.symm
set_option maxRecDepth 100000 in
theorem open_ents {H : Type} {enc : TypeId × Value → H} {W : World} {base : Nat} {v : Value} {d : DataW H} {p : List MemPlace} (hok : Value.okWide Try.prog W .any base 22 v) (h : DataW.Trod enc Try.prog W 0 (fun _ => true) true 22 v d p) :
    ∃ l : List Ent, (∀ e ∈ l, intOkE e) ∧ Sl W 35 encE v l :=
  open_rows Try.underlying22 (by kernel_rfl) (by decide) (fun _ _ _ hl hx => ent_of hl hx) hok h
set_option maxRecDepth 100000 in
theorem open_ent {H : Type} {enc : TypeId × Value → H} {W : World} {r : Reach} {b0 : Nat} {v : Value} {d : DataW H} {p : List MemPlace} (hv : Value.okWide Try.prog W r b0 48 v) (h : DataW.Trod enc Try.prog W 0 (fun _ => true) true 48 v d p) :
    ∃ e : Ent, v = .agg (rowE e) ∧ intOkE e := by
  have hC : Try.prog.cellsOf 48 = 35 := by kernel_rfl
  obtain ⟨cs, rfl, hsz⟩ := okWide_struct Try.underlying48 hv
  obtain ⟨fuel, hf⟩ := h
  obtain ⟨e, he, ho⟩ := ent_of (by rw [← hC, ← hsz]; simp [Value.cells]) hf
  refine ⟨e, ?_, ho⟩
  unfold rowE
  rw [← he]
  simp [Value.cells]
end Go.Proofs.Ytomgjapjeckokaa
namespace Go.Proofs.Ytomgjapjeckokaa
open Go.ChangeShapes Go.WideShapes Go.ChangeAt Go.RowKit

theorem okWide_arr2 {P : Program} {w : World} {r : Reach} {base n : Nat} {t u : TypeId} {v : Value} (ht : P.underlying t = some (.array n u)) (h : Value.okWide P w r base t v) : ∃ cs, v = .agg cs ∧ cs.size = P.cellsOf t := by
  simp only [Value.okWide, ht] at h
  obtain ⟨cs, h1, h2, _⟩ := h
  exact ⟨cs, h1, h2⟩
set_option maxRecDepth 100000 in
theorem open_at2 {H : Type} {enc : TypeId × Value → H} {W : World} {r : Reach} {b0 : Nat} {v : Value} {d : DataW H} {p : List MemPlace} (hv : Value.okWide Try.prog W r b0 41 v) (h : DataW.Trod enc Try.prog W 0 (fun _ => true) true 41 v d p) :
    ∃ x0 x1 : UInt8, v = .agg #[.int .u8 (x0.toNat : Int), .int .u8 (x1.toNat : Int)] := by
  have hC : Try.prog.cellsOf 41 = 2 := by kernel_rfl
  obtain ⟨cs, rfl, hsz⟩ := okWide_arr2 Try.underlying41 hv
  obtain ⟨fuel, hf⟩ := h
  obtain ⟨l, hl, hn⟩ := bytes_of Try.underlying41 Try.underlying5 (by kernel_rfl) (by rw [← hC, ← hsz]; simp [Value.cells]) hf
  match l, hn with
  | [x0, x1], _ =>
    refine ⟨x0, x1, ?_⟩
    have h9 : cs.toList = keyV [x0, x1] := by rw [← hl]; simp [Value.cells]
    congr 1
    apply Array.ext'
    rw [h9]; rfl
end Go.Proofs.Ytomgjapjeckokaa
namespace Go.Proofs.Ytomgjapjeckokaa.indexBack
open Go.ChangeShapes Go.WideShapes Go.ChangeAt Go.RowKit

theorem own : ownKnob Try.prog.godebug = none := by kernel_rfl
theorem laidOut : laidOutB Try.prog = true := by kernel_rfl
theorem reads : ∀ t ∈ Try.f4.params.toList, Try.prog.readableRec t = true ∧ t < Try.prog.types.size := by
  rw [Try.params4]
  intro t ht
  simp at ht
  rcases ht with rfl | rfl
  all_goals exact ⟨by kernel_rfl, of_decide_eq_true (by kernel_rfl)⟩

set_option maxRecDepth 100000 in
theorem lifted (os : Os) (started : os.Started) (H : Type) (enc : TypeId × Value → H) :
    ReturnsInHanded {} Try.checked os 4 .any (Rows.indexBackSpec.pre6 enc Try.prog Try.f4 Rows.indexBackRow.domain false) (Rows.indexBackSpec.post enc Try.prog Try.f4 false true false false) := by
  refine returnsInHanded_of_change (C := Try.checked) own started (by kernel_rfl) Try.func4
    (ChangeSpec.witness6 (enc := enc) (C := Try.checked) false ⟨#[], #[.slice none 0 0, .agg #[.int .u8 0, .int .u8 0]], []⟩ 8 (by kernel_rfl) (by kernel_rfl) (by kernel_rfl) (by kernel_rfl)) ?_
  intro W base args ds gs before hval0 hW hcnd _
  have hval : ∀ (j : Nat) t v, Try.f4.params[j]? = some t → args[j]? = some v → Value.okWide Try.prog W .any base t v := hval0
  have hW' := hW
  obtain ⟨p, q, hA0, hV, rfl, hfz, hnd⟩ := hW
  have hA : DataW.TrodAll enc Try.prog W 0 (fun _ => true) true Try.f4.params.toList args.toList ds p := hA0
  rw [Try.params4] at hA hval
  obtain ⟨v0, vs0, d0, ds0, p0, q0, hargs, rfl, rfl, h0, r0⟩ := trodAll_cons hA
  obtain ⟨v1, vs1, d1, ds1, p1, q1, rfl, rfl, rfl, h1, r1⟩ := trodAll_cons r0
  obtain ⟨rfl, rfl, rfl⟩ := trodAll_nil r1
  obtain rfl : args = #[v0, v1] := by cases args; simp_all
  obtain ⟨rfl, rfl⟩ := trodVars_none hV
  obtain ⟨l0, b0, s0⟩ := open_ents (hval 0 22 v0 rfl rfl) h0
  obtain ⟨y1, z1, rfl⟩ := open_at2 (hval 1 41 v1 rfl rfl) h1
  clear hA0 hval0
  refine (IndexBack_any l0 y1 z1 v0 W s0 (fun e he => (b0 e he).1)).mono fun e W' ⟨he, hB⟩ => ?_
  subst he
  exact ⟨_, rfl, law_post rfl hW' rfl rfl Try.underlying4 laidOut reads hB⟩

theorem holds : Rows.IndexBackSaid :=
  OpenClaim.holds_of_wide 4 Try.f4 rfl rfl rfl rfl rfl rfl rfl ⟨rfl, rfl, rfl, rfl, rfl⟩ rfl rfl rfl rfl rfl (by kernel_rfl) Try.func4 (by kernel_rfl)
    (of_decide_eq_true (by kernel_rfl)) (by unfold Func.isWrapper; first | (rw [if_pos (by decide +kernel)]; kernel_rfl) | (rw [if_neg (by decide +kernel)]; exact ⟨rfl, rfl⟩))
    (fun os started H enc _ => lifted os started H enc)
end Go.Proofs.Ytomgjapjeckokaa.indexBack
