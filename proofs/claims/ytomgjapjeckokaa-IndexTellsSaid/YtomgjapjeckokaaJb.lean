/- Jb: IyW, IyX in one text. -/
import Derived.Test.YtomgjapjeckokaaSqz
import Derived.Test.YtomgjapjeckokaaIyP
import Derived.Deep.RegionHeld3
namespace Go.Proofs.Ytomgjapjeckokaa
open Go.RowKit Go.Shelf Go.Lib

theorem bit_set (v : UInt8) {k j : Nat} (hk : k < 8) (hj : j < 8) : bitB (setB v k) j = (decide (j = k) || bitB v j) := by
  have key : ∀ x, x < 256 → ∀ k, k < 8 → ∀ j, j < 8 → (decide ((UInt8.ofNat (x ||| 2 ^ k)).toNat / 2 ^ j % 2 = 1)) = (decide (j = k) || decide (x / 2 ^ j % 2 = 1)) := by decide +kernel
  exact key v.toNat v.toNat_lt k hk j hj
def hasN (m : List UInt8) (c : Nat) : Bool := bitB (m.getD (c / 8) 0) (c % 8)
theorem hasM_nat {m : List UInt8} {c : Nat} (h : c < 128) : hasM m (c : Int) = hasN m c := by
  unfold hasM hasN
  rw [decide_eq_false (by omega : ¬ (c : Int) < 0), decide_eq_false (by omega : ¬ (128 : Int) ≤ (c : Int)), Int.toNat_natCast]
  rfl
theorem has_set {m : List UInt8} (hm : m.length = 16) {b c : Nat} (hb : b < 128) (_hc : c < 128) : hasN (setM m b) c = (decide (c = b) || hasN m c) := by
  unfold hasN setM
  by_cases h : c / 8 = b / 8
  · have e1 : (m.set (b / 8) (setB (m.getD (b / 8) 0) (b % 8))).getD (c / 8) 0 = setB (m.getD (b / 8) 0) (b % 8) := by
      rw [h, List.getD_eq_getElem?_getD, List.getElem?_set, if_pos rfl, if_pos (by omega)]; rfl
    rw [e1, bit_set _ (Nat.mod_lt _ (by decide)) (Nat.mod_lt _ (by decide)), h]
    congr 1
    exact decide_eq_decide.2 (by omega)
  · have e1 : (m.set (b / 8) (setB (m.getD (b / 8) 0) (b % 8))).getD (c / 8) 0 = m.getD (c / 8) 0 := by
      rw [List.getD_eq_getElem?_getD, List.getElem?_set, if_neg (fun h9 => h h9.symm), ← List.getD_eq_getElem?_getD]
    rw [e1, decide_eq_false (fun h9 => h (by rw [h9])), Bool.false_or]
theorem withF_some {m : List UInt8} (hm : m.length = 16) {f : Nat} : ∀ {n : Nat} {r : List UInt8}, f + n ≤ 128 → withF m f n = some r → (∀ c, c < 128 → hasN r c = (decide (f ≤ c ∧ c < f + n) || hasN m c)) ∧ ∀ c, f ≤ c → c < f + n → hasN m c = false
  | 0, r, _, h => by
    rw [withF] at h; cases h
    exact ⟨fun c _ => by rw [decide_eq_false (by omega), Bool.false_or], fun c h1 h2 => by omega⟩
  | n + 1, r, hn, h => by
    rw [withF] at h
    obtain ⟨m', h1, h2⟩ := Option.bind_eq_some_iff.1 h
    obtain ⟨a1, a2⟩ := withF_some hm (by omega) h1
    have hm' : m'.length = 16 := (withF_len h1).trans hm
    split at h2
    · cases h2
    · rename_i hno
      cases h2
      rw [hasM_nat (by omega), a1 _ (by omega), decide_eq_false (by omega), Bool.false_or] at hno
      refine ⟨fun c hc => ?_, fun c h3 h4 => ?_⟩
      · rw [has_set hm' (by omega) hc, a1 c hc, ← Bool.or_assoc]
        congr 1
        rw [Bool.eq_iff_iff]
        simp only [Bool.or_eq_true, decide_eq_true_eq]
        omega
      · by_cases e : c = f + n
        · rw [e]; simpa using hno
        · exact a2 c h3 (by omega)
theorem withF_none {m : List UInt8} (hm : m.length = 16) {f : Nat} : ∀ {n : Nat}, f + n ≤ 128 → withF m f n = none → ∃ c, f ≤ c ∧ c < f + n ∧ hasN m c = true
  | 0, _, h => by rw [withF] at h; cases h
  | n + 1, hn, h => by
    rw [withF] at h
    cases h1 : withF m f n with
    | none =>
      obtain ⟨c, h2, h3, h4⟩ := withF_none hm (by omega) h1
      exact ⟨c, h2, by omega, h4⟩
    | some m' =>
      rw [h1, Option.bind_some] at h
      split at h
      · rename_i hh
        obtain ⟨a1, -⟩ := withF_some hm (by omega) h1
        rw [hasM_nat (by omega), a1 _ (by omega), decide_eq_false (by omega), Bool.false_or] at hh
        exact ⟨f + n, by omega, by omega, hh⟩
      · cases h
/-- do two entries lie over one another? -/
def overE (a b : Ent) : Bool := decide (a.place < b.place + b.blocks) && decide (b.place < a.place + a.blocks)
def entD : Ent := ⟨[], 0, 0, 0⟩
def apartTo (l : List Ent) (i k : Nat) : Bool := (List.range k).all fun j => !overE (l.getD j entD) (l.getD i entD)
def okAt (l : List Ent) (i : Nat) : Bool := oneAt l i && (i == 0 || lessS (keyAt l (i - 1)) (keyAt l i))
def rGoodTo (l : List Ent) (n : Nat) : Bool := (List.range n).all fun i => okAt l i && apartTo l i i
def rGoodL (l : List Ent) : Bool := rGoodTo l l.length
/-- the blocks of the first n entries -/
def coverN (l : List Ent) (n c : Nat) : Prop := ∃ i e, i < n ∧ l[i]? = some e ∧ e.place ≤ (c : Int) ∧ (c : Int) < e.place + e.blocks
def apartAll (l : List Ent) (n : Nat) : Prop := ∀ i, i < n → oneAt l i = true ∧ apartTo l i i = true
theorem goodL_one {e : Ent} : goodL [e] = oneE e := by
  unfold goodL goodTo oneAt
  simp
theorem withM_one {m : List UInt8} {e : Ent} (h : oneE e = true) : withM m e.place e.blocks = match withF m e.place.toNat e.blocks.toNat with | some r => (r, 0) | none => (zer16, 11) := by
  obtain ⟨h1, h2, h3, h4, h5, -, -⟩ := oneE_is h
  unfold withM
  rw [if_neg (by omega)]
  cases withF m e.place.toNat e.blocks.toNat <;> rfl
theorem used_spec (l : List Ent) : ∀ n, n ≤ l.length → (∀ m, usedTo l n = some m → apartAll l n ∧ ∀ c, c < 128 → (hasN m c = true ↔ coverN l n c)) ∧ (usedTo l n = none → ¬ apartAll l n)
  | 0, _ => by
    refine ⟨fun m h => ?_, fun h => ?_⟩
    · rw [usedTo] at h; cases h
      refine ⟨fun i hi => absurd hi (Nat.not_lt_zero _), fun c hc => ?_⟩
      have h0 : hasN zer16 c = false := by
        have key : ∀ c, c < 128 → hasN zer16 c = false := by decide +kernel
        exact key c hc
      rw [h0]
      constructor
      · intro h; cases h
      · rintro ⟨i, e, hi, -⟩; omega
    · rw [usedTo] at h; cases h
  | n + 1, hn => by
    obtain ⟨ih1, ih2⟩ := used_spec l n (by omega)
    obtain ⟨e, he⟩ : ∃ e, l[n]? = some e := ⟨_, List.getElem?_eq_getElem (by omega)⟩
    have hD : l.getD n entD = e := by rw [List.getD_eq_getElem?_getD, he]; rfl
    have hone : oneAt l n = oneE e := by unfold oneAt; rw [he]
    cases hu : usedTo l n with
    | none =>
      have hu2 : usedTo l (n + 1) = none := by rw [usedTo, hu]; rfl
      refine ⟨fun m h => (by rw [hu2] at h; cases h), fun _ ha => ih2 hu fun i hi => ha i (by omega)⟩
    | some m =>
      have ha := (ih1 m hu).1
      have hc := (ih1 m hu).2
      have hml : m.length = 16 := usedTo_len hu
      have hu2 : usedTo l (n + 1) = if (withM m e.place e.blocks).2 = 0 ∧ goodL [e] = true then some (withM m e.place e.blocks).1 else none := by rw [usedTo, hu, Option.bind_some, he]
      have hin : ∀ j, j < n → ∃ a, l[j]? = some a ∧ l.getD j entD = a ∧ oneE a = true := fun j hj => by
        refine ⟨l[j], List.getElem?_eq_getElem (by omega), ?_, ?_⟩
        · rw [List.getD_eq_getElem?_getD, List.getElem?_eq_getElem (by omega)]; rfl
        · have := (ha j hj).1
          unfold oneAt at this
          rwa [List.getElem?_eq_getElem (by omega)] at this
      by_cases ho : oneE e = true
      · obtain ⟨p1, p2, p3, p4, p5, -, -⟩ := oneE_is ho
        have hw := withM_one (m := m) ho
        have hfn : e.place.toNat + e.blocks.toNat ≤ 128 := by omega
        cases hf : withF m e.place.toNat e.blocks.toNat with
        | some r =>
          rw [hf] at hw
          obtain ⟨a1, a2⟩ := withF_some hml hfn hf
          rw [hw, if_pos ⟨rfl, by rw [goodL_one]; exact ho⟩] at hu2
          refine ⟨fun m2 h => ?_, fun h => by rw [hu2] at h; cases h⟩
          rw [hu2] at h
          cases h
          refine ⟨fun i hi => ?_, fun c hcl => ?_⟩
          · by_cases ei : i = n
            · subst ei
              refine ⟨by rw [hone]; exact ho, ?_⟩
              unfold apartTo
              rw [List.all_eq_true]
              intro j hj
              rw [List.mem_range] at hj
              obtain ⟨a, h1, h2, h3⟩ := hin j hj
              rw [h2, hD]
              obtain ⟨q1, q2, q3, q4, q5, -, -⟩ := oneE_is h3
              unfold overE
              rw [Bool.not_eq_true', Bool.and_eq_false_iff, decide_eq_false_iff_not, decide_eq_false_iff_not]
              by_cases hov : a.place < e.place + e.blocks ∧ e.place < a.place + a.blocks
              · exfalso
                obtain ⟨c, hc1, hc2, hc3, hc4⟩ : ∃ c : Nat, a.place ≤ (c : Int) ∧ (c : Int) < a.place + a.blocks ∧ e.place ≤ (c : Int) ∧ (c : Int) < e.place + e.blocks := by
                  by_cases hle : a.place ≤ e.place
                  · exact ⟨e.place.toNat, by omega, by omega, by omega, by omega⟩
                  · exact ⟨a.place.toNat, by omega, by omega, by omega, by omega⟩
                have h5 := a2 c (by omega) (by omega)
                have h6 := (hc c (by omega)).2 ⟨j, a, hj, h1, hc1, hc2⟩
                rw [h5] at h6; cases h6
              · omega
            · exact ha i (by omega)
          · dsimp only
            rw [a1 c hcl, Bool.or_eq_true, decide_eq_true_eq, hc c hcl]
            constructor
            · rintro (h | ⟨i, a, h1, h2⟩)
              · exact ⟨n, e, by omega, he, by omega, by omega⟩
              · exact ⟨i, a, by omega, h2⟩
            · rintro ⟨i, a, h1, h2, h3, h4⟩
              by_cases ei : i = n
              · subst ei
                rw [he] at h2; cases h2
                exact .inl (by omega)
              · exact .inr ⟨i, a, by omega, h2, h3, h4⟩
        | none =>
          rw [hf] at hw
          rw [hw, if_neg (fun h9 => absurd h9.1 (by decide))] at hu2
          refine ⟨fun m2 h => (by rw [hu2] at h; cases h), fun _ hall => ?_⟩
          obtain ⟨c, h1, h2, h3⟩ := withF_none hml hfn hf
          obtain ⟨i, a, h4, h5, h6, h7⟩ := (hc c (by omega)).1 h3
          have h8 := (hall n (by omega)).2
          unfold apartTo at h8
          rw [List.all_eq_true] at h8
          have h9 := h8 i (List.mem_range.2 h4)
          obtain ⟨a', g1, g2, g3⟩ := hin i h4
          rw [h5] at g1; cases g1
          rw [g2, hD] at h9
          unfold overE at h9
          rw [Bool.not_eq_true', Bool.and_eq_false_iff, decide_eq_false_iff_not, decide_eq_false_iff_not] at h9
          omega
      · rw [if_neg (fun h9 => ho (by rw [← goodL_one]; exact h9.2))] at hu2
        refine ⟨fun m2 h => (by rw [hu2] at h; cases h), fun _ hall => ?_⟩
        have h8 := (hall n (by omega)).1
        rw [hone] at h8
        exact ho h8
theorem goodI_eq (l : List Ent) : goodI l = rGoodL l := by
  obtain ⟨h1, h2⟩ := used_spec l l.length (Nat.le_refl _)
  have hu : (usedTo l l.length).isSome = true ↔ apartAll l l.length := by
    cases hu : usedTo l l.length with
    | none => exact ⟨fun h => (by cases h), fun h => absurd h (h2 hu)⟩
    | some m => exact ⟨fun _ => (h1 m hu).1, fun _ => rfl⟩
  rw [Bool.eq_iff_iff]
  unfold goodI rGoodL rGoodTo okAt risesL risesTo
  rw [Bool.and_eq_true, hu]
  simp only [List.all_eq_true, List.mem_range, Bool.and_eq_true]
  constructor
  · rintro ⟨a, b⟩ i hi
    exact ⟨⟨(b i hi).1, a i hi⟩, (b i hi).2⟩
  · intro h
    exact ⟨fun i hi => (h i hi).1.2, fun i hi => ⟨(h i hi).1.1, (h i hi).2⟩⟩
end Go.Proofs.Ytomgjapjeckokaa
namespace Go.Proofs.Ytomgjapjeckokaa
open Go.RowKit Go.Shelf Go.Lib

theorem rGoodTo_succ (l : List Ent) (n : Nat) : rGoodTo l (n + 1) = (rGoodTo l n && (okAt l n && apartTo l n n)) := by
  simp [rGoodTo, List.range_succ, List.all_append]
theorem rGoodTo_stop {l : List Ent} {n m : Nat} (h : rGoodTo l n = false) (hm : n ≤ m) : rGoodTo l m = false := by
  induction m with
  | zero => obtain rfl : n = 0 := by omega
            exact h
  | succ m ih =>
    by_cases e : n = m + 1
    · rw [← e]; exact h
    · rw [rGoodTo_succ, ih (by omega)]; rfl
theorem rGoodTo_at {l : List Ent} {n j : Nat} (h : rGoodTo l n = true) (hj : j < n) : okAt l j = true := by
  unfold rGoodTo at h
  rw [List.all_eq_true] at h
  have h9 := h j (List.mem_range.2 hj)
  rw [Bool.and_eq_true] at h9
  exact h9.1
theorem apartTo_succ (l : List Ent) (i k : Nat) : apartTo l i (k + 1) = (apartTo l i k && !overE (l.getD k entD) (l.getD i entD)) := by
  simp [apartTo, List.range_succ, List.all_append]
theorem apartTo_stop {l : List Ent} {i n m : Nat} (h : apartTo l i n = false) (hm : n ≤ m) : apartTo l i m = false := by
  induction m with
  | zero => obtain rfl : n = 0 := by omega
            exact h
  | succ m ih =>
    by_cases e : n = m + 1
    · rw [← e]; exact h
    · rw [apartTo_succ, ih (by omega)]; rfl

set_option maxRecDepth 100000 in
set_option maxHeartbeats 4000000 in
theorem rGood_any (l : List Ent) (v : Value) (w : World) (hs : Sl w 35 encE v l) (hk : ∀ e ∈ l, e.key.length = 32) :
    Calls Try.prog 15 #[v] w fun e w' => e = .returned (.bool (rGoodL l)) ∧ Below w.heap.size w w' := by
  obtain ⟨n₀, hn₀⟩ : ∃ n, w.heap.size = n := ⟨_, rfl⟩
  obtain ⟨p, cp, rfl, hlc⟩ := hs.shape
  unfold maxLen at hlc
  have B0 : Below n₀ w w := Below.refl _ _
  obtain ⟨L, hL⟩ : ∃ x, l.length = x := ⟨_, rfl⟩
  obtain ⟨rb, hrb⟩ : ∃ r, rGoodL l = r := ⟨_, rfl⟩
  have hrb2 : rGoodTo l L = rb := by rw [← hrb, ← hL]; rfl
  rw [hL] at hs hlc ⊢
  rw [hrb, hn₀]
  clear hrb
  replace hL := hid hL
  replace hs := hid hs
  replace hn₀ := hid hn₀
  go_enter Try.func15, Try.ntmps15
  go_wp2_with (fail)
  go_loopw [3] (fun iv wr => ∃ k : Nat, k ≤ L ∧ iv = .int .i64 k ∧ rGoodTo l k = true ∧ Below n₀ w wr) (fun iv _ => L - (RowKit.intOf iv).toNat)
  case atStart => exact ⟨0, Nat.zero_le _, rfl, rfl, B0⟩
  case round =>
    obtain ⟨k, hkL, rfl, hacc, qB⟩ := hrel
    clear B0
    by_cases hlt : k < L
    · have hkI : (k : Int) < (L : Int) := by omega
      obtain ⟨e2, he2⟩ : ∃ e, l[k]? = some e := ⟨_, List.getElem?_eq_getElem (by rw [hL.out]; omega)⟩
      have hk2 := hk e2 (List.mem_of_getElem? he2)
      obtain ⟨b, o, c, he, -, -, hc⟩ := hs.out.open (by rintro rfl; simp at he2)
      obtain ⟨rfl, -, rfl⟩ := Value.slice.inj he
      clear he
      have hcB : ∀ W, Below n₀ w W → ∀ i e, l[i]? = some e → W.rangeAt b (o + i * 35) (encE e) := fun W hW i e h => (Kept.of_below (hn₀.out ▸ hW : Below w.heap.size w W) 0).range (hc i e h)
      have qB2 : Below n₀ w wr.drew := qB.drewN 1
      have hst : (fun W => Below wr.drew.heap.size wr.drew W) wr.drew := Below.refl _ _
      have hx2 : ∀ W, Below wr.drew.heap.size wr.drew W → W.rangeAt b (o + k * 35) (encE e2) := fun W h => (Kept.of_below h 0).range (hcB _ qB2 k e2 he2)
      have hy2 := hid (fun W (h : Below wr.drew.heap.size wr.drew W) => range_key (hx2 W h))
      have hi2 : (Try.prog.info? 48).map (·.size) = some (encE e2).length := by rw [encE_len, hk2]; kernel_rfl
      have hik2 : (Try.prog.info? 46).map (·.size) = some (keyV e2.key).length := by rw [keyV_len, hk2]; kernel_rfl
      have hstep := rGoodTo_succ l k
      rw [hacc, Bool.true_and] at hstep
      obtain ⟨ob, ho⟩ : ∃ x, oneE e2 = x := ⟨_, rfl⟩
      have cO := hid (fun W (_ : Below wr.drew.heap.size wr.drew W) => by have h := One_any e2 W hk2; rw [ho] at h; exact h)
      have hone : oneAt l k = ob := by unfold oneAt; rw [he2, ← ho]
      have hkey2 : keyAt l k = e2.key := keyAt_of he2
      replace hx2 := hid hx2
      replace hcB := hid hcB
      replace hacc := hid hacc
      replace he2 := hid he2
      clear hc qB
      cases ob with
      | false =>
        have hrf : rb = false := by
          rw [← hrb2]
          refine rGoodTo_stop (n := k + 1) ?_ (by omega)
          rw [hstep]; unfold okAt; rw [hone]; rfl
        clear hstep hrb2 hone hkey2 ho
        subst hrf
        go_upto_region 4 with (fail)
        refine wp_region_held_drew (S := (fun W => Below wr.drew.heap.size wr.drew W)) (by kernel_rfl) hst (fun hHeld => ?_)
        generalize wr.drew = W5 at *
        refine tkH 0 (some 11) ?_ rfl (Or.inl ⟨by rfl, ?_⟩) ?_; rotate_left
        · intro w hSw; (try dsimp only at hSw); go_simp <;> with_reducible rfl
        try simp only [Act.put, aS, aZ, aC]
        refine tkH 1 (some 12) ?_ rfl (Or.inl ⟨by rfl, ?_⟩) ?_; rotate_left
        · intro w hSw; (try dsimp only at hSw); go_simp <;> with_reducible rfl
        try simp only [Act.put, aS, aZ, aC]
        refine tkH 2 (some 13) ?_ rfl (Or.inl ⟨by rfl, ?_⟩) ?_; rotate_left
        · intro w hSw; (try dsimp only at hSw); go_simp <;> with_reducible rfl
        try simp only [Act.put, aS, aZ, aC]
        refine tkH 3 (some 14) _ rfl (yieldsIf_load_mid (by rfl) 48 _ rfl b (o + k * 35) rfl (encE e2) _ (fun w h => hx2.out w h) Try.underlying48 rfl hi2) ?_
        try simp only [Act.put, aS, aZ, aC]
        refine wpAnyH_ready (rs := [4]) (by kernel_rfl) (by simp) ?_
        refine AllReadyH.cons rfl (fun K hK => ?_) AllReadyH.nil
        go_simp
        refine (cO.out _ hHeld).mono ?_
        rintro r w7 ⟨rfl, b7⟩
        have b8 := hHeld.trans (b7.mono hHeld.size)
        clear hHeld b7
        refine hK.out _ _ (b8) (fun hHeld => ?_)
        clear hK K
        try simp only [Act.put, aS, aZ, aC]
        refine tkH 5 (some 16) ?_ rfl (Or.inl ⟨by rfl, ?_⟩) ?_; rotate_left
        · intro w hSw; (try dsimp only at hSw); go_simp <;> with_reducible rfl
        try simp only [Act.put, aS, aZ, aC]
        refine tkH 6 (some 17) ?_ rfl (Or.inl ⟨by rfl, ?_⟩) ?_; rotate_left
        · intro w hSw; (try dsimp only at hSw); go_simp <;> with_reducible rfl
        try simp only [Act.put, aS, aZ, aC]
        refine tkH 7 (some 18) _ rfl (Or.inr ⟨by rfl, rfl⟩) ?_
        try simp only [Act.put, aS, aZ, aC]
        refine tkH 8 (some 19) _ rfl (Or.inr ⟨by rfl, rfl⟩) ?_
        try simp only [Act.put, aS, aZ, aC]
        refine tkH 9 (some 20) _ rfl (Or.inr ⟨by rfl, rfl⟩) ?_
        try simp only [Act.put, aS, aZ, aC]
        refine tkH 10 (some 21) _ rfl (Or.inr ⟨by rfl, rfl⟩) ?_
        try simp only [Act.put, aS, aZ, aC]
        refine tkH 11 (some 22) _ rfl (Or.inr ⟨by rfl, rfl⟩) ?_
        try simp only [Act.put, aS, aZ, aC]
        refine tkH 12 (some 23) _ rfl (Or.inr ⟨by rfl, rfl⟩) ?_
        try simp only [Act.put, aS, aZ, aC]
        refine tkH 13 (some 24) _ rfl (Or.inr ⟨by rfl, rfl⟩) ?_
        try simp only [Act.put, aS, aZ, aC]
        refine tkH 14 (some 25) _ rfl (Or.inr ⟨by rfl, rfl⟩) ?_
        try simp only [Act.put, aS, aZ, aC]
        refine tkH 15 (some 26) _ rfl (Or.inr ⟨by rfl, rfl⟩) ?_
        try simp only [Act.put, aS, aZ, aC]
        refine tkH 16 (some 27) _ rfl (Or.inr ⟨by rfl, rfl⟩) ?_
        try simp only [Act.put, aS, aZ, aC]
        refine tkH 17 (some 28) _ rfl (Or.inr ⟨by rfl, rfl⟩) ?_
        try simp only [Act.put, aS, aZ, aC]
        refine tkH 18 (some 29) _ rfl (Or.inr ⟨by rfl, rfl⟩) ?_
        try simp only [Act.put, aS, aZ, aC]
        refine tkH 19 (some 30) _ rfl (Or.inr ⟨by rfl, rfl⟩) ?_
        try simp only [Act.put, aS, aZ, aC]
        refine tkH 20 (some 31) _ rfl (Or.inr ⟨by rfl, rfl⟩) ?_
        try simp only [Act.put, aS, aZ, aC]
        refine tkH 21 (some 32) _ rfl (Or.inr ⟨by rfl, rfl⟩) ?_
        try simp only [Act.put, aS, aZ, aC]
        refine tkH 22 (some 33) _ rfl (Or.inr ⟨by rfl, rfl⟩) ?_
        try simp only [Act.put, aS, aZ, aC]
        refine tkH 23 (some 34) _ rfl (Or.inr ⟨by rfl, rfl⟩) ?_
        try simp only [Act.put, aS, aZ, aC]
        refine tkH 24 (some 35) ?_ rfl (Or.inl ⟨by rfl, ?_⟩) ?_; rotate_left
        · intro w hSw; (try dsimp only at hSw); go_simp <;> with_reducible rfl
        try simp only [Act.put, aS, aZ, aC]
        refine wpAnyH_done (by kernel_rfl) ?_ _
        skip
        go_wp2_with (fail)
        go_ret
        exact ⟨rfl, qB2.trans (hHeld.mono (by have := qB2.size; have := hn₀.out; omega))⟩
      | true =>
        by_cases hk0 : k = 0
        · have hok1 : okAt l k = true := by unfold okAt; rw [hone, hk0]; rfl
          rw [hok1, Bool.true_and] at hstep
          have hok : apartTo l k k = true → rGoodTo l (k + 1) = true := fun h => hstep.trans h
          have hbad : apartTo l k k = false → rb = false := fun h => by rw [← hrb2]; exact rGoodTo_stop (hstep.trans h) (by omega)
          clear hstep hone hkey2 hok1
          replace ho := hid ho
          replace hrb2 := hid hrb2
          have hk0I : ¬ (0 : Int) < (k : Int) := by omega
          have hk0N : ¬ 0 < k := by omega
          replace hk0 := hid hk0
          go_upto_region 4 with (fail)
          refine wp_region_held_drew (S := (fun W => Below wr.drew.heap.size wr.drew W)) (by kernel_rfl) hst (fun hHeld => ?_)
          generalize wr.drew = W5 at *
          refine tkH 0 (some 11) ?_ rfl (Or.inl ⟨by rfl, ?_⟩) ?_; rotate_left
          · intro w hSw; (try dsimp only at hSw); go_simp <;> with_reducible rfl
          try simp only [Act.put, aS, aZ, aC]
          refine tkH 1 (some 12) ?_ rfl (Or.inl ⟨by rfl, ?_⟩) ?_; rotate_left
          · intro w hSw; (try dsimp only at hSw); go_simp <;> with_reducible rfl
          try simp only [Act.put, aS, aZ, aC]
          refine tkH 2 (some 13) ?_ rfl (Or.inl ⟨by rfl, ?_⟩) ?_; rotate_left
          · intro w hSw; (try dsimp only at hSw); go_simp <;> with_reducible rfl
          try simp only [Act.put, aS, aZ, aC]
          refine tkH 3 (some 14) _ rfl (yieldsIf_load_mid (by rfl) 48 _ rfl b (o + k * 35) rfl (encE e2) _ (fun w h => hx2.out w h) Try.underlying48 rfl hi2) ?_
          try simp only [Act.put, aS, aZ, aC]
          refine wpAnyH_ready (rs := [4]) (by kernel_rfl) (by simp) ?_
          refine AllReadyH.cons rfl (fun K hK => ?_) AllReadyH.nil
          go_simp
          refine (cO.out _ hHeld).mono ?_
          rintro r w7 ⟨rfl, b7⟩
          have b8 := hHeld.trans (b7.mono hHeld.size)
          clear hHeld b7
          refine hK.out _ _ (b8) (fun hHeld => ?_)
          clear hK K
          try simp only [Act.put, aS, aZ, aC]
          refine tkH 5 (some 16) ?_ rfl (Or.inl ⟨by rfl, ?_⟩) ?_; rotate_left
          · intro w hSw; (try dsimp only at hSw); go_simp <;> with_reducible rfl
          try simp only [Act.put, aS, aZ, aC]
          refine tkH 6 (some 17) ?_ rfl (Or.inl ⟨by rfl, ?_⟩) ?_; rotate_left
          · intro w hSw; (try dsimp only at hSw); go_simp <;> with_reducible rfl
          try simp only [Act.put, aS, aZ, aC]
          refine tkH 7 (some 18) ?_ rfl (Or.inl ⟨by rfl, ?_⟩) ?_; rotate_left
          · intro w hSw; (try dsimp only at hSw); go_simp <;> with_reducible rfl
          try simp only [Act.put, aS, aZ, aC]
          refine tkH 8 (some 19) ?_ rfl (Or.inl ⟨by rfl, ?_⟩) ?_; rotate_left
          · intro w hSw; (try dsimp only at hSw); go_simp <;> with_reducible rfl
          try simp only [Act.put, aS, aZ, aC]
          refine tkH 9 (some 20) ?_ rfl (Or.inl ⟨by rfl, ?_⟩) ?_; rotate_left
          · intro w hSw; (try dsimp only at hSw); go_simp <;> with_reducible rfl
          try simp only [Act.put, aS, aZ, aC]
          refine tkH 10 (some 21) _ rfl (Or.inr ⟨by rfl, rfl⟩) ?_
          try simp only [Act.put, aS, aZ, aC]
          refine tkH 11 (some 22) _ rfl (Or.inr ⟨by rfl, rfl⟩) ?_
          try simp only [Act.put, aS, aZ, aC]
          refine tkH 12 (some 23) _ rfl (Or.inr ⟨by rfl, rfl⟩) ?_
          try simp only [Act.put, aS, aZ, aC]
          refine tkH 13 (some 24) _ rfl (Or.inr ⟨by rfl, rfl⟩) ?_
          try simp only [Act.put, aS, aZ, aC]
          refine tkH 14 (some 25) _ rfl (Or.inr ⟨by rfl, rfl⟩) ?_
          try simp only [Act.put, aS, aZ, aC]
          refine tkH 15 (some 26) _ rfl (Or.inr ⟨by rfl, rfl⟩) ?_
          try simp only [Act.put, aS, aZ, aC]
          refine tkH 16 (some 27) _ rfl (Or.inr ⟨by rfl, rfl⟩) ?_
          try simp only [Act.put, aS, aZ, aC]
          refine tkH 17 (some 28) _ rfl (Or.inr ⟨by rfl, rfl⟩) ?_
          try simp only [Act.put, aS, aZ, aC]
          refine tkH 18 (some 29) _ rfl (Or.inr ⟨by rfl, rfl⟩) ?_
          try simp only [Act.put, aS, aZ, aC]
          refine tkH 19 (some 30) _ rfl (Or.inr ⟨by rfl, rfl⟩) ?_
          try simp only [Act.put, aS, aZ, aC]
          refine tkH 20 (some 31) _ rfl (Or.inr ⟨by rfl, rfl⟩) ?_
          try simp only [Act.put, aS, aZ, aC]
          refine tkH 21 (some 32) _ rfl (Or.inr ⟨by rfl, rfl⟩) ?_
          try simp only [Act.put, aS, aZ, aC]
          refine tkH 22 (some 33) _ rfl (Or.inr ⟨by rfl, rfl⟩) ?_
          try simp only [Act.put, aS, aZ, aC]
          refine tkH 23 (some 34) ?_ rfl (Or.inl ⟨by rfl, ?_⟩) ?_; rotate_left
          · intro w hSw; (try dsimp only at hSw); go_simp <;> with_reducible rfl
          try simp only [Act.put, aS, aZ, aC]
          refine tkH 24 (some 35) ?_ rfl (Or.inl ⟨by rfl, ?_⟩) ?_; rotate_left
          · intro w hSw; (try dsimp only at hSw); go_simp <;> with_reducible rfl
          try simp only [Act.put, aS, aZ, aC]
          refine wpAnyH_done (by kernel_rfl) ?_ _
          skip
          have qB7 : Below n₀ w w7 := qB2.trans (hHeld.mono (by have := qB2.size; have := hn₀.out; omega))
          clear hHeld qB2 cO hst
          replace hbad := hid hbad
          replace hok := hid hok
          go_wp2_with (fail)
          go_loopw [4] (fun jv wz => ∃ j : Nat, j ≤ k ∧ jv = .int .i64 j ∧ apartTo l k j = true ∧ Below n₀ w wz) (fun jv _ => k - (RowKit.intOf jv).toNat)
          case atStart => exact ⟨0, Nat.zero_le _, rfl, rfl, qB7⟩
          case round =>
            obtain ⟨j, hjk, rfl, hap, zB⟩ := hrel
            clear qB7
            by_cases hjl : j < k
            · have hjkI : (j : Int) < (k : Int) := by omega
              have hjLI : (j : Int) < (L : Int) := by omega
              obtain ⟨ea, hea⟩ : ∃ e, l[j]? = some e := ⟨_, List.getElem?_eq_getElem (by have := hL.out; omega)⟩
              have hka := hk ea (List.mem_of_getElem? hea)
              have hoa : oneE ea = true := by
                have h9 := rGoodTo_at hacc.out hjl
                unfold okAt oneAt at h9
                rw [hea, Bool.and_eq_true] at h9
                exact h9.1
              obtain ⟨p1, p2, p3, p4, p5, -, -⟩ := oneE_is hoa
              obtain ⟨q1, q2, q3, q4, q5, -, -⟩ := oneE_is ho.out
              have zB2 : Below n₀ w wr.drew := zB.drewN 1
              obtain ⟨c1, c2, -⟩ := cell_place (hcB.out _ zB2 k e2 he2.out) hk2
              obtain ⟨c3, c4, -⟩ := cell_place (hcB.out _ zB2 j ea hea) hka
              have hov : overE (l.getD j entD) (l.getD k entD) = (decide (ea.place < e2.place + e2.blocks) && decide (e2.place < ea.place + ea.blocks)) := by
                rw [List.getD_eq_getElem?_getD, List.getD_eq_getElem?_getD, hea, he2.out]; rfl
              have hstp := apartTo_succ l k j
              rw [hap, Bool.true_and, hov] at hstp
              have hw1 : IntKind.i64.wrap (e2.place + e2.blocks) = e2.place + e2.blocks := by rw [IntKind.wrap_i64]; omega
              have hw2 : IntKind.i64.wrap (ea.place + ea.blocks) = ea.place + ea.blocks := by rw [IntKind.wrap_i64]; omega
              clear hov hea hap zB hoa p1 p2 p3 p4 p5 q1 q2 q3 q4 q5
              have hst : (fun W => W.cell? ⟨b, o + k * 35 + 32, none⟩ = some (.int .i64 e2.place) ∧ W.cell? ⟨b, o + k * 35 + 33, none⟩ = some (.int .i64 e2.blocks) ∧ W.cell? ⟨b, o + j * 35 + 32, none⟩ = some (.int .i64 ea.place) ∧ W.cell? ⟨b, o + j * 35 + 33, none⟩ = some (.int .i64 ea.blocks)) wr.drew := ⟨c1, c2, c3, c4⟩
              clear c1 c2 c3 c4
              obtain ⟨pi, hpi⟩ : ∃ x, e2.place = x := ⟨_, rfl⟩
              obtain ⟨bi, hbi⟩ : ∃ x, e2.blocks = x := ⟨_, rfl⟩
              obtain ⟨pj, hpj⟩ : ∃ x, ea.place = x := ⟨_, rfl⟩
              obtain ⟨bj, hbj⟩ : ∃ x, ea.blocks = x := ⟨_, rfl⟩
              rw [hpi, hbi, hpj, hbj] at hst hstp
              rw [hpi, hbi] at hw1
              rw [hpj, hbj] at hw2
              clear hpi hbi hpj hbj
              by_cases m1 : pj < pi + bi
              · by_cases m2 : pi < pj + bj
                · rw [decide_eq_true m1, decide_eq_true m2] at hstp
                  obtain rfl := hbad.out (apartTo_stop hstp (by omega))
                  clear hstp
                  go_upto_region 9 with (fail)
                  refine wp_region_held_drew (S := (fun W => W.cell? ⟨b, o + k * 35 + 32, none⟩ = some (.int .i64 pi) ∧ W.cell? ⟨b, o + k * 35 + 33, none⟩ = some (.int .i64 bi) ∧ W.cell? ⟨b, o + j * 35 + 32, none⟩ = some (.int .i64 pj) ∧ W.cell? ⟨b, o + j * 35 + 33, none⟩ = some (.int .i64 bj))) (by kernel_rfl) hst (fun hHeld => ?_)
                  refine tkH 0 (some 41) ?_ rfl (Or.inl ⟨by rfl, ?_⟩) ?_; rotate_left
                  · intro w hSw; (try dsimp only at hSw); go_simp <;> with_reducible rfl
                  try simp only [Act.put, aS, aZ, aC]
                  refine tkH 1 (some 42) ?_ rfl (Or.inl ⟨by rfl, ?_⟩) ?_; rotate_left
                  · intro w hSw; (try dsimp only at hSw); go_simp <;> with_reducible rfl
                  try simp only [Act.put, aS, aZ, aC]
                  refine tkH 2 (some 43) ?_ rfl (Or.inl ⟨by rfl, ?_⟩) ?_; rotate_left
                  · intro w hSw; (try dsimp only at hSw); go_simp <;> with_reducible rfl
                  try simp only [Act.put, aS, aZ, aC]
                  refine tkH 3 (some 44) ?_ rfl (Or.inl ⟨by rfl, ?_⟩) ?_; rotate_left
                  · intro w hSw; (try dsimp only at hSw); go_simp <;> with_reducible rfl
                  try simp only [Act.put, aS, aZ, aC]
                  refine tkH 4 (some 45) ?_ rfl (Or.inl ⟨by rfl, ?_⟩) ?_; rotate_left
                  · intro w hSw; (try dsimp only at hSw); go_simp <;> with_reducible rfl
                  try simp only [Act.put, aS, aZ, aC]
                  refine tkH 5 (some 46) ?_ rfl (Or.inl ⟨by rfl, ?_⟩) ?_; rotate_left
                  · intro w hSw; (try dsimp only at hSw); go_simp <;> with_reducible rfl
                  try simp only [Act.put, aS, aZ, aC]
                  refine tkH 6 (some 47) ?_ rfl (Or.inl ⟨by rfl, ?_⟩) ?_; rotate_left
                  · intro w hSw; (try dsimp only at hSw); go_simp <;> with_reducible rfl
                  try simp only [Act.put, aS, aZ, aC]
                  refine tkH 7 (some 48) ?_ rfl (Or.inl ⟨by rfl, ?_⟩) ?_; rotate_left
                  · intro w hSw; (try dsimp only at hSw); go_simp <;> with_reducible rfl
                  try simp only [Act.put, aS, aZ, aC]
                  refine tkH 8 (some 49) ?_ rfl (Or.inl ⟨by rfl, ?_⟩) ?_; rotate_left
                  · intro w hSw; (try dsimp only at hSw); go_simp <;> with_reducible rfl
                  try simp only [Act.put, aS, aZ, aC]
                  refine tkH 9 (some 50) ?_ rfl (Or.inl ⟨by rfl, ?_⟩) ?_; rotate_left
                  · intro w hSw; (try dsimp only at hSw); go_simp <;> with_reducible rfl
                  try simp only [Act.put, aS, aZ, aC]
                  refine tkH 10 (some 51) ?_ rfl (Or.inl ⟨by rfl, ?_⟩) ?_; rotate_left
                  · intro w hSw; (try dsimp only at hSw); go_simp <;> with_reducible rfl
                  try simp only [Act.put, aS, aZ, aC]
                  refine tkH 11 (some 52) ?_ rfl (Or.inl ⟨by rfl, ?_⟩) ?_; rotate_left
                  · intro w hSw; (try dsimp only at hSw); go_simp <;> with_reducible rfl
                  try simp only [Act.put, aS, aZ, aC]
                  refine tkH 12 (some 53) ?_ rfl (Or.inl ⟨by rfl, ?_⟩) ?_; rotate_left
                  · intro w hSw; (try dsimp only at hSw); go_simp <;> with_reducible rfl
                  try simp only [Act.put, aS, aZ, aC]
                  refine tkH 13 (some 54) ?_ rfl (Or.inl ⟨by rfl, ?_⟩) ?_; rotate_left
                  · intro w hSw; (try dsimp only at hSw); go_simp <;> with_reducible rfl
                  try simp only [Act.put, aS, aZ, aC]
                  refine tkH 14 (some 55) ?_ rfl (Or.inl ⟨by rfl, ?_⟩) ?_; rotate_left
                  · intro w hSw; (try dsimp only at hSw); go_simp <;> with_reducible rfl
                  try simp only [Act.put, aS, aZ, aC]
                  refine tkH 15 (some 56) ?_ rfl (Or.inl ⟨by rfl, ?_⟩) ?_; rotate_left
                  · intro w hSw; (try dsimp only at hSw); go_simp <;> with_reducible rfl
                  try simp only [Act.put, aS, aZ, aC]
                  refine tkH 16 (some 57) ?_ rfl (Or.inl ⟨by rfl, ?_⟩) ?_; rotate_left
                  · intro w hSw; (try dsimp only at hSw); go_simp <;> with_reducible rfl
                  try simp only [Act.put, aS, aZ, aC]
                  refine tkH 17 (some 58) ?_ rfl (Or.inl ⟨by rfl, ?_⟩) ?_; rotate_left
                  · intro w hSw; (try dsimp only at hSw); go_simp <;> with_reducible rfl
                  try simp only [Act.put, aS, aZ, aC]
                  refine tkH 18 (some 59) ?_ rfl (Or.inl ⟨by rfl, ?_⟩) ?_; rotate_left
                  · intro w hSw; (try dsimp only at hSw); go_simp <;> with_reducible rfl
                  try simp only [Act.put, aS, aZ, aC]
                  refine tkH 19 (some 60) ?_ rfl (Or.inl ⟨by rfl, ?_⟩) ?_; rotate_left
                  · intro w hSw; (try dsimp only at hSw); go_simp <;> with_reducible rfl
                  try simp only [Act.put, aS, aZ, aC]
                  refine tkH 20 (some 61) ?_ rfl (Or.inl ⟨by rfl, ?_⟩) ?_; rotate_left
                  · intro w hSw; (try dsimp only at hSw); go_simp <;> with_reducible rfl
                  try simp only [Act.put, aS, aZ, aC]
                  refine tkH 21 (some 62) ?_ rfl (Or.inl ⟨by rfl, ?_⟩) ?_; rotate_left
                  · intro w hSw; (try dsimp only at hSw); go_simp <;> with_reducible rfl
                  try simp only [Act.put, aS, aZ, aC]
                  refine tkH 22 (some 63) ?_ rfl (Or.inl ⟨by rfl, ?_⟩) ?_; rotate_left
                  · intro w hSw; (try dsimp only at hSw); go_simp <;> with_reducible rfl
                  try simp only [Act.put, aS, aZ, aC]
                  refine tkH 23 (some 64) ?_ rfl (Or.inl ⟨by rfl, ?_⟩) ?_; rotate_left
                  · intro w hSw; (try dsimp only at hSw); go_simp <;> with_reducible rfl
                  try simp only [Act.put, aS, aZ, aC]
                  refine tkH 24 (some 65) ?_ rfl (Or.inl ⟨by rfl, ?_⟩) ?_; rotate_left
                  · intro w hSw; (try dsimp only at hSw); go_simp <;> with_reducible rfl
                  try simp only [Act.put, aS, aZ, aC]
                  refine tkH 25 (some 66) ?_ rfl (Or.inl ⟨by rfl, ?_⟩) ?_; rotate_left
                  · intro w hSw; (try dsimp only at hSw); go_simp <;> with_reducible rfl
                  try simp only [Act.put, aS, aZ, aC]
                  refine tkH 26 (some 67) ?_ rfl (Or.inl ⟨by rfl, ?_⟩) ?_; rotate_left
                  · intro w hSw; (try dsimp only at hSw); go_simp <;> with_reducible rfl
                  try simp only [Act.put, aS, aZ, aC]
                  refine tkH 27 (some 68) ?_ rfl (Or.inl ⟨by rfl, ?_⟩) ?_; rotate_left
                  · intro w hSw; (try dsimp only at hSw); go_simp <;> with_reducible rfl
                  try simp only [Act.put, aS, aZ, aC]
                  refine tkH 28 (some 69) ?_ rfl (Or.inl ⟨by rfl, ?_⟩) ?_; rotate_left
                  · intro w hSw; (try dsimp only at hSw); go_simp <;> with_reducible rfl
                  try simp only [Act.put, aS, aZ, aC]
                  refine tkH 29 (some 70) ?_ rfl (Or.inl ⟨by rfl, ?_⟩) ?_; rotate_left
                  · intro w hSw; (try dsimp only at hSw); go_simp <;> with_reducible rfl
                  try simp only [Act.put, aS, aZ, aC]
                  refine tkH 30 (some 71) ?_ rfl (Or.inl ⟨by rfl, ?_⟩) ?_; rotate_left
                  · intro w hSw; (try dsimp only at hSw); go_simp <;> with_reducible rfl
                  try simp only [Act.put, aS, aZ, aC]
                  refine tkH 31 (some 72) ?_ rfl (Or.inl ⟨by rfl, ?_⟩) ?_; rotate_left
                  · intro w hSw; (try dsimp only at hSw); go_simp <;> with_reducible rfl
                  try simp only [Act.put, aS, aZ, aC]
                  refine tkH 32 (some 73) ?_ rfl (Or.inl ⟨by rfl, ?_⟩) ?_; rotate_left
                  · intro w hSw; (try dsimp only at hSw); go_simp <;> with_reducible rfl
                  try simp only [Act.put, aS, aZ, aC]
                  refine tkH 33 (some 74) ?_ rfl (Or.inl ⟨by rfl, ?_⟩) ?_; rotate_left
                  · intro w hSw; (try dsimp only at hSw); go_simp <;> with_reducible rfl
                  try simp only [Act.put, aS, aZ, aC]
                  refine tkH 34 (some 75) ?_ rfl (Or.inl ⟨by rfl, ?_⟩) ?_; rotate_left
                  · intro w hSw; (try dsimp only at hSw); go_simp <;> with_reducible rfl
                  try simp only [Act.put, aS, aZ, aC]
                  refine tkH 35 (some 76) ?_ rfl (Or.inl ⟨by rfl, ?_⟩) ?_; rotate_left
                  · intro w hSw; (try dsimp only at hSw); go_simp <;> with_reducible rfl
                  try simp only [Act.put, aS, aZ, aC]
                  refine wpAnyH_done (by kernel_rfl) ?_ _
                  skip
                  go_wp2_with (fail)
                  go_ret
                  exact ⟨rfl, zB2⟩
                · rw [decide_eq_false m2, Bool.and_false] at hstp
                  replace hstp := hid hstp
                  go_upto_region 9 with (fail)
                  refine wp_region_held_drew (S := (fun W => W.cell? ⟨b, o + k * 35 + 32, none⟩ = some (.int .i64 pi) ∧ W.cell? ⟨b, o + k * 35 + 33, none⟩ = some (.int .i64 bi) ∧ W.cell? ⟨b, o + j * 35 + 32, none⟩ = some (.int .i64 pj) ∧ W.cell? ⟨b, o + j * 35 + 33, none⟩ = some (.int .i64 bj))) (by kernel_rfl) hst (fun hHeld => ?_)
                  refine tkH 0 (some 41) ?_ rfl (Or.inl ⟨by rfl, ?_⟩) ?_; rotate_left
                  · intro w hSw; (try dsimp only at hSw); go_simp <;> with_reducible rfl
                  try simp only [Act.put, aS, aZ, aC]
                  refine tkH 1 (some 42) ?_ rfl (Or.inl ⟨by rfl, ?_⟩) ?_; rotate_left
                  · intro w hSw; (try dsimp only at hSw); go_simp <;> with_reducible rfl
                  try simp only [Act.put, aS, aZ, aC]
                  refine tkH 2 (some 43) ?_ rfl (Or.inl ⟨by rfl, ?_⟩) ?_; rotate_left
                  · intro w hSw; (try dsimp only at hSw); go_simp <;> with_reducible rfl
                  try simp only [Act.put, aS, aZ, aC]
                  refine tkH 3 (some 44) ?_ rfl (Or.inl ⟨by rfl, ?_⟩) ?_; rotate_left
                  · intro w hSw; (try dsimp only at hSw); go_simp <;> with_reducible rfl
                  try simp only [Act.put, aS, aZ, aC]
                  refine tkH 4 (some 45) ?_ rfl (Or.inl ⟨by rfl, ?_⟩) ?_; rotate_left
                  · intro w hSw; (try dsimp only at hSw); go_simp <;> with_reducible rfl
                  try simp only [Act.put, aS, aZ, aC]
                  refine tkH 5 (some 46) ?_ rfl (Or.inl ⟨by rfl, ?_⟩) ?_; rotate_left
                  · intro w hSw; (try dsimp only at hSw); go_simp <;> with_reducible rfl
                  try simp only [Act.put, aS, aZ, aC]
                  refine tkH 6 (some 47) ?_ rfl (Or.inl ⟨by rfl, ?_⟩) ?_; rotate_left
                  · intro w hSw; (try dsimp only at hSw); go_simp <;> with_reducible rfl
                  try simp only [Act.put, aS, aZ, aC]
                  refine tkH 7 (some 48) ?_ rfl (Or.inl ⟨by rfl, ?_⟩) ?_; rotate_left
                  · intro w hSw; (try dsimp only at hSw); go_simp <;> with_reducible rfl
                  try simp only [Act.put, aS, aZ, aC]
                  refine tkH 8 (some 49) ?_ rfl (Or.inl ⟨by rfl, ?_⟩) ?_; rotate_left
                  · intro w hSw; (try dsimp only at hSw); go_simp <;> with_reducible rfl
                  try simp only [Act.put, aS, aZ, aC]
                  refine tkH 9 (some 50) ?_ rfl (Or.inl ⟨by rfl, ?_⟩) ?_; rotate_left
                  · intro w hSw; (try dsimp only at hSw); go_simp <;> with_reducible rfl
                  try simp only [Act.put, aS, aZ, aC]
                  refine tkH 10 (some 51) ?_ rfl (Or.inl ⟨by rfl, ?_⟩) ?_; rotate_left
                  · intro w hSw; (try dsimp only at hSw); go_simp <;> with_reducible rfl
                  try simp only [Act.put, aS, aZ, aC]
                  refine tkH 11 (some 52) ?_ rfl (Or.inl ⟨by rfl, ?_⟩) ?_; rotate_left
                  · intro w hSw; (try dsimp only at hSw); go_simp <;> with_reducible rfl
                  try simp only [Act.put, aS, aZ, aC]
                  refine tkH 12 (some 53) ?_ rfl (Or.inl ⟨by rfl, ?_⟩) ?_; rotate_left
                  · intro w hSw; (try dsimp only at hSw); go_simp <;> with_reducible rfl
                  try simp only [Act.put, aS, aZ, aC]
                  refine tkH 13 (some 54) ?_ rfl (Or.inl ⟨by rfl, ?_⟩) ?_; rotate_left
                  · intro w hSw; (try dsimp only at hSw); go_simp <;> with_reducible rfl
                  try simp only [Act.put, aS, aZ, aC]
                  refine tkH 14 (some 55) ?_ rfl (Or.inl ⟨by rfl, ?_⟩) ?_; rotate_left
                  · intro w hSw; (try dsimp only at hSw); go_simp <;> with_reducible rfl
                  try simp only [Act.put, aS, aZ, aC]
                  refine tkH 15 (some 56) ?_ rfl (Or.inl ⟨by rfl, ?_⟩) ?_; rotate_left
                  · intro w hSw; (try dsimp only at hSw); go_simp <;> with_reducible rfl
                  try simp only [Act.put, aS, aZ, aC]
                  refine tkH 16 (some 57) ?_ rfl (Or.inl ⟨by rfl, ?_⟩) ?_; rotate_left
                  · intro w hSw; (try dsimp only at hSw); go_simp <;> with_reducible rfl
                  try simp only [Act.put, aS, aZ, aC]
                  refine tkH 17 (some 58) ?_ rfl (Or.inl ⟨by rfl, ?_⟩) ?_; rotate_left
                  · intro w hSw; (try dsimp only at hSw); go_simp <;> with_reducible rfl
                  try simp only [Act.put, aS, aZ, aC]
                  refine tkH 18 (some 59) ?_ rfl (Or.inl ⟨by rfl, ?_⟩) ?_; rotate_left
                  · intro w hSw; (try dsimp only at hSw); go_simp <;> with_reducible rfl
                  try simp only [Act.put, aS, aZ, aC]
                  refine tkH 19 (some 60) ?_ rfl (Or.inl ⟨by rfl, ?_⟩) ?_; rotate_left
                  · intro w hSw; (try dsimp only at hSw); go_simp <;> with_reducible rfl
                  try simp only [Act.put, aS, aZ, aC]
                  refine tkH 20 (some 61) ?_ rfl (Or.inl ⟨by rfl, ?_⟩) ?_; rotate_left
                  · intro w hSw; (try dsimp only at hSw); go_simp <;> with_reducible rfl
                  try simp only [Act.put, aS, aZ, aC]
                  refine tkH 21 (some 62) ?_ rfl (Or.inl ⟨by rfl, ?_⟩) ?_; rotate_left
                  · intro w hSw; (try dsimp only at hSw); go_simp <;> with_reducible rfl
                  try simp only [Act.put, aS, aZ, aC]
                  refine tkH 22 (some 63) ?_ rfl (Or.inl ⟨by rfl, ?_⟩) ?_; rotate_left
                  · intro w hSw; (try dsimp only at hSw); go_simp <;> with_reducible rfl
                  try simp only [Act.put, aS, aZ, aC]
                  refine tkH 23 (some 64) ?_ rfl (Or.inl ⟨by rfl, ?_⟩) ?_; rotate_left
                  · intro w hSw; (try dsimp only at hSw); go_simp <;> with_reducible rfl
                  try simp only [Act.put, aS, aZ, aC]
                  refine tkH 24 (some 65) ?_ rfl (Or.inl ⟨by rfl, ?_⟩) ?_; rotate_left
                  · intro w hSw; (try dsimp only at hSw); go_simp <;> with_reducible rfl
                  try simp only [Act.put, aS, aZ, aC]
                  refine tkH 25 (some 66) ?_ rfl (Or.inl ⟨by rfl, ?_⟩) ?_; rotate_left
                  · intro w hSw; (try dsimp only at hSw); go_simp <;> with_reducible rfl
                  try simp only [Act.put, aS, aZ, aC]
                  refine tkH 26 (some 67) ?_ rfl (Or.inl ⟨by rfl, ?_⟩) ?_; rotate_left
                  · intro w hSw; (try dsimp only at hSw); go_simp <;> with_reducible rfl
                  try simp only [Act.put, aS, aZ, aC]
                  refine tkH 27 (some 68) ?_ rfl (Or.inl ⟨by rfl, ?_⟩) ?_; rotate_left
                  · intro w hSw; (try dsimp only at hSw); go_simp <;> with_reducible rfl
                  try simp only [Act.put, aS, aZ, aC]
                  refine tkH 28 (some 69) ?_ rfl (Or.inl ⟨by rfl, ?_⟩) ?_; rotate_left
                  · intro w hSw; (try dsimp only at hSw); go_simp <;> with_reducible rfl
                  try simp only [Act.put, aS, aZ, aC]
                  refine tkH 29 (some 70) ?_ rfl (Or.inl ⟨by rfl, ?_⟩) ?_; rotate_left
                  · intro w hSw; (try dsimp only at hSw); go_simp <;> with_reducible rfl
                  try simp only [Act.put, aS, aZ, aC]
                  refine tkH 30 (some 71) ?_ rfl (Or.inl ⟨by rfl, ?_⟩) ?_; rotate_left
                  · intro w hSw; (try dsimp only at hSw); go_simp <;> with_reducible rfl
                  try simp only [Act.put, aS, aZ, aC]
                  refine tkH 31 (some 72) ?_ rfl (Or.inl ⟨by rfl, ?_⟩) ?_; rotate_left
                  · intro w hSw; (try dsimp only at hSw); go_simp <;> with_reducible rfl
                  try simp only [Act.put, aS, aZ, aC]
                  refine tkH 32 (some 73) ?_ rfl (Or.inl ⟨by rfl, ?_⟩) ?_; rotate_left
                  · intro w hSw; (try dsimp only at hSw); go_simp <;> with_reducible rfl
                  try simp only [Act.put, aS, aZ, aC]
                  refine tkH 33 (some 74) ?_ rfl (Or.inl ⟨by rfl, ?_⟩) ?_; rotate_left
                  · intro w hSw; (try dsimp only at hSw); go_simp <;> with_reducible rfl
                  try simp only [Act.put, aS, aZ, aC]
                  refine tkH 34 (some 75) ?_ rfl (Or.inl ⟨by rfl, ?_⟩) ?_; rotate_left
                  · intro w hSw; (try dsimp only at hSw); go_simp <;> with_reducible rfl
                  try simp only [Act.put, aS, aZ, aC]
                  refine tkH 35 (some 76) ?_ rfl (Or.inl ⟨by rfl, ?_⟩) ?_; rotate_left
                  · intro w hSw; (try dsimp only at hSw); go_simp <;> with_reducible rfl
                  try simp only [Act.put, aS, aZ, aC]
                  refine wpAnyH_done (by kernel_rfl) ?_ _
                  skip
                  go_wp2_with (fail)
                  refine ⟨?_, ?_⟩
                  · first | exact ⟨j + 1, by omega, by go_num, hstp.out, zB2⟩ | ((repeat apply Exists.intro); refine ⟨?_, rfl⟩; exact ⟨j + 1, by omega, by go_num, hstp.out, zB2⟩)
                  · simp [RowKit.intOf]; omega
              · rw [decide_eq_false m1, Bool.false_and] at hstp
                replace hstp := hid hstp
                go_upto_region 9 with (fail)
                refine wp_region_held_drew (S := (fun W => W.cell? ⟨b, o + k * 35 + 32, none⟩ = some (.int .i64 pi) ∧ W.cell? ⟨b, o + k * 35 + 33, none⟩ = some (.int .i64 bi) ∧ W.cell? ⟨b, o + j * 35 + 32, none⟩ = some (.int .i64 pj) ∧ W.cell? ⟨b, o + j * 35 + 33, none⟩ = some (.int .i64 bj))) (by kernel_rfl) hst (fun hHeld => ?_)
                refine tkH 0 (some 41) ?_ rfl (Or.inl ⟨by rfl, ?_⟩) ?_; rotate_left
                · intro w hSw; (try dsimp only at hSw); go_simp <;> with_reducible rfl
                try simp only [Act.put, aS, aZ, aC]
                refine tkH 1 (some 42) ?_ rfl (Or.inl ⟨by rfl, ?_⟩) ?_; rotate_left
                · intro w hSw; (try dsimp only at hSw); go_simp <;> with_reducible rfl
                try simp only [Act.put, aS, aZ, aC]
                refine tkH 2 (some 43) ?_ rfl (Or.inl ⟨by rfl, ?_⟩) ?_; rotate_left
                · intro w hSw; (try dsimp only at hSw); go_simp <;> with_reducible rfl
                try simp only [Act.put, aS, aZ, aC]
                refine tkH 3 (some 44) ?_ rfl (Or.inl ⟨by rfl, ?_⟩) ?_; rotate_left
                · intro w hSw; (try dsimp only at hSw); go_simp <;> with_reducible rfl
                try simp only [Act.put, aS, aZ, aC]
                refine tkH 4 (some 45) ?_ rfl (Or.inl ⟨by rfl, ?_⟩) ?_; rotate_left
                · intro w hSw; (try dsimp only at hSw); go_simp <;> with_reducible rfl
                try simp only [Act.put, aS, aZ, aC]
                refine tkH 5 (some 46) ?_ rfl (Or.inl ⟨by rfl, ?_⟩) ?_; rotate_left
                · intro w hSw; (try dsimp only at hSw); go_simp <;> with_reducible rfl
                try simp only [Act.put, aS, aZ, aC]
                refine tkH 6 (some 47) ?_ rfl (Or.inl ⟨by rfl, ?_⟩) ?_; rotate_left
                · intro w hSw; (try dsimp only at hSw); go_simp <;> with_reducible rfl
                try simp only [Act.put, aS, aZ, aC]
                refine tkH 7 (some 48) ?_ rfl (Or.inl ⟨by rfl, ?_⟩) ?_; rotate_left
                · intro w hSw; (try dsimp only at hSw); go_simp <;> with_reducible rfl
                try simp only [Act.put, aS, aZ, aC]
                refine tkH 8 (some 49) ?_ rfl (Or.inl ⟨by rfl, ?_⟩) ?_; rotate_left
                · intro w hSw; (try dsimp only at hSw); go_simp <;> with_reducible rfl
                try simp only [Act.put, aS, aZ, aC]
                refine tkH 9 (some 50) ?_ rfl (Or.inl ⟨by rfl, ?_⟩) ?_; rotate_left
                · intro w hSw; (try dsimp only at hSw); go_simp <;> with_reducible rfl
                try simp only [Act.put, aS, aZ, aC]
                refine tkH 10 (some 51) ?_ rfl (Or.inl ⟨by rfl, ?_⟩) ?_; rotate_left
                · intro w hSw; (try dsimp only at hSw); go_simp <;> with_reducible rfl
                try simp only [Act.put, aS, aZ, aC]
                refine tkH 11 (some 52) ?_ rfl (Or.inl ⟨by rfl, ?_⟩) ?_; rotate_left
                · intro w hSw; (try dsimp only at hSw); go_simp <;> with_reducible rfl
                try simp only [Act.put, aS, aZ, aC]
                refine tkH 12 (some 53) ?_ rfl (Or.inl ⟨by rfl, ?_⟩) ?_; rotate_left
                · intro w hSw; (try dsimp only at hSw); go_simp <;> with_reducible rfl
                try simp only [Act.put, aS, aZ, aC]
                refine tkH 13 (some 54) ?_ rfl (Or.inl ⟨by rfl, ?_⟩) ?_; rotate_left
                · intro w hSw; (try dsimp only at hSw); go_simp <;> with_reducible rfl
                try simp only [Act.put, aS, aZ, aC]
                refine tkH 14 (some 55) ?_ rfl (Or.inl ⟨by rfl, ?_⟩) ?_; rotate_left
                · intro w hSw; (try dsimp only at hSw); go_simp <;> with_reducible rfl
                try simp only [Act.put, aS, aZ, aC]
                refine tkH 15 (some 56) ?_ rfl (Or.inl ⟨by rfl, ?_⟩) ?_; rotate_left
                · intro w hSw; (try dsimp only at hSw); go_simp <;> with_reducible rfl
                try simp only [Act.put, aS, aZ, aC]
                refine tkH 16 (some 57) ?_ rfl (Or.inl ⟨by rfl, ?_⟩) ?_; rotate_left
                · intro w hSw; (try dsimp only at hSw); go_simp <;> with_reducible rfl
                try simp only [Act.put, aS, aZ, aC]
                refine tkH 17 (some 58) ?_ rfl (Or.inl ⟨by rfl, ?_⟩) ?_; rotate_left
                · intro w hSw; (try dsimp only at hSw); go_simp <;> with_reducible rfl
                try simp only [Act.put, aS, aZ, aC]
                refine tkH 18 (some 59) _ rfl (Or.inr ⟨by rfl, rfl⟩) ?_
                try simp only [Act.put, aS, aZ, aC]
                refine tkH 19 (some 60) _ rfl (Or.inr ⟨by rfl, rfl⟩) ?_
                try simp only [Act.put, aS, aZ, aC]
                refine tkH 20 (some 61) _ rfl (Or.inr ⟨by rfl, rfl⟩) ?_
                try simp only [Act.put, aS, aZ, aC]
                refine tkH 21 (some 62) _ rfl (Or.inr ⟨by rfl, rfl⟩) ?_
                try simp only [Act.put, aS, aZ, aC]
                refine tkH 22 (some 63) _ rfl (Or.inr ⟨by rfl, rfl⟩) ?_
                try simp only [Act.put, aS, aZ, aC]
                refine tkH 23 (some 64) _ rfl (Or.inr ⟨by rfl, rfl⟩) ?_
                try simp only [Act.put, aS, aZ, aC]
                refine tkH 24 (some 65) _ rfl (Or.inr ⟨by rfl, rfl⟩) ?_
                try simp only [Act.put, aS, aZ, aC]
                refine tkH 25 (some 66) _ rfl (Or.inr ⟨by rfl, rfl⟩) ?_
                try simp only [Act.put, aS, aZ, aC]
                refine tkH 26 (some 67) _ rfl (Or.inr ⟨by rfl, rfl⟩) ?_
                try simp only [Act.put, aS, aZ, aC]
                refine tkH 27 (some 68) _ rfl (Or.inr ⟨by rfl, rfl⟩) ?_
                try simp only [Act.put, aS, aZ, aC]
                refine tkH 28 (some 69) _ rfl (Or.inr ⟨by rfl, rfl⟩) ?_
                try simp only [Act.put, aS, aZ, aC]
                refine tkH 29 (some 70) _ rfl (Or.inr ⟨by rfl, rfl⟩) ?_
                try simp only [Act.put, aS, aZ, aC]
                refine tkH 30 (some 71) _ rfl (Or.inr ⟨by rfl, rfl⟩) ?_
                try simp only [Act.put, aS, aZ, aC]
                refine tkH 31 (some 72) _ rfl (Or.inr ⟨by rfl, rfl⟩) ?_
                try simp only [Act.put, aS, aZ, aC]
                refine tkH 32 (some 73) _ rfl (Or.inr ⟨by rfl, rfl⟩) ?_
                try simp only [Act.put, aS, aZ, aC]
                refine tkH 33 (some 74) _ rfl (Or.inr ⟨by rfl, rfl⟩) ?_
                try simp only [Act.put, aS, aZ, aC]
                refine tkH 34 (some 75) _ rfl (Or.inr ⟨by rfl, rfl⟩) ?_
                try simp only [Act.put, aS, aZ, aC]
                refine tkH 35 (some 76) ?_ rfl (Or.inl ⟨by rfl, ?_⟩) ?_; rotate_left
                · intro w hSw; (try dsimp only at hSw); go_simp <;> with_reducible rfl
                try simp only [Act.put, aS, aZ, aC]
                refine wpAnyH_done (by kernel_rfl) ?_ _
                skip
                go_wp2_with (fail)
                refine ⟨?_, ?_⟩
                · first | exact ⟨j + 1, by omega, by go_num, hstp.out, zB2⟩ | ((repeat apply Exists.intro); refine ⟨?_, rfl⟩; exact ⟨j + 1, by omega, by go_num, hstp.out, zB2⟩)
                · simp [RowKit.intOf]; omega
            · obtain rfl : j = k := by omega
              have hst2 := hid (hok.out hap)
              clear hap
              go_wp2_with (fail)
              refine ⟨?_, ?_⟩
              · first | exact ⟨j + 1, by omega, by go_num, hst2.out, zB⟩ | ((repeat apply Exists.intro); refine ⟨?_, rfl⟩; exact ⟨j + 1, by omega, by go_num, hst2.out, zB⟩)
              · simp [RowKit.intOf]; omega
        · obtain ⟨j, hj⟩ : ∃ j, k - 1 = j := ⟨_, rfl⟩
          have hk0I : (0 : Int) < (k : Int) := by omega
          have hk0N : 0 < k := by omega
          have hjI : (j : Int) < (L : Int) := by omega
          have hkw : IntKind.i64.wrap ((k : Int) - 1) = (j : Int) := by rw [IntKind.wrap_i64]; omega
          obtain ⟨e1, he1⟩ : ∃ e, l[j]? = some e := ⟨_, List.getElem?_eq_getElem (by rw [hL.out]; omega)⟩
          have hk1 := hk e1 (List.mem_of_getElem? he1)
          have hkey1 : keyAt l j = e1.key := keyAt_of he1
          have hik1 : (Try.prog.info? 46).map (·.size) = some (keyV e1.key).length := by rw [keyV_len, hk1]; kernel_rfl
          have hy1 := hid (fun W (h : Below wr.drew.heap.size wr.drew W) => range_key ((Kept.of_below h 0).range (hcB.out _ qB2 j e1 he1)))
          obtain ⟨ls, hls⟩ : ∃ x, lessS e1.key e2.key = x := ⟨_, rfl⟩
          have cL := hid (fun W (_ : Below wr.drew.heap.size wr.drew W) => by have h := rLess_any e1.key e2.key W hk1 hk2; rw [hls] at h; exact h)
          have hok1 : okAt l k = ls := by unfold okAt; rw [hone, show (k == 0) = false by simpa using hk0, hj, hkey1, hkey2, hls]; rfl
          rw [hok1] at hstep
          clear hone hkey1 hkey2 hok1 hls he1
          replace ho := hid ho
          replace hk0 := hid hk0
          replace hj := hid hj
          cases ls with
          | false =>
            have hrf : rb = false := by
              rw [← hrb2]
              exact rGoodTo_stop hstep (by omega)
            clear hstep hrb2
            subst hrf
            go_upto_region 4 with (fail)
            refine wp_region_held_drew (S := (fun W => Below wr.drew.heap.size wr.drew W)) (by kernel_rfl) hst (fun hHeld => ?_)
            generalize wr.drew = W5 at *
            refine tkH 0 (some 11) ?_ rfl (Or.inl ⟨by rfl, ?_⟩) ?_; rotate_left
            · intro w hSw; (try dsimp only at hSw); go_simp <;> with_reducible rfl
            try simp only [Act.put, aS, aZ, aC]
            refine tkH 1 (some 12) ?_ rfl (Or.inl ⟨by rfl, ?_⟩) ?_; rotate_left
            · intro w hSw; (try dsimp only at hSw); go_simp <;> with_reducible rfl
            try simp only [Act.put, aS, aZ, aC]
            refine tkH 2 (some 13) ?_ rfl (Or.inl ⟨by rfl, ?_⟩) ?_; rotate_left
            · intro w hSw; (try dsimp only at hSw); go_simp <;> with_reducible rfl
            try simp only [Act.put, aS, aZ, aC]
            refine tkH 3 (some 14) _ rfl (yieldsIf_load_mid (by rfl) 48 _ rfl b (o + k * 35) rfl (encE e2) _ (fun w h => hx2.out w h) Try.underlying48 rfl hi2) ?_
            try simp only [Act.put, aS, aZ, aC]
            refine wpAnyH_ready (rs := [4]) (by kernel_rfl) (by simp) ?_
            refine AllReadyH.cons rfl (fun K hK => ?_) AllReadyH.nil
            go_simp
            refine (cO.out _ hHeld).mono ?_
            rintro r w7 ⟨rfl, b7⟩
            have b8 := hHeld.trans (b7.mono hHeld.size)
            clear hHeld b7
            refine hK.out _ _ (b8) (fun hHeld => ?_)
            clear hK K
            try simp only [Act.put, aS, aZ, aC]
            refine tkH 5 (some 16) ?_ rfl (Or.inl ⟨by rfl, ?_⟩) ?_; rotate_left
            · intro w hSw; (try dsimp only at hSw); go_simp <;> with_reducible rfl
            try simp only [Act.put, aS, aZ, aC]
            refine tkH 6 (some 17) ?_ rfl (Or.inl ⟨by rfl, ?_⟩) ?_; rotate_left
            · intro w hSw; (try dsimp only at hSw); go_simp <;> with_reducible rfl
            try simp only [Act.put, aS, aZ, aC]
            refine tkH 7 (some 18) ?_ rfl (Or.inl ⟨by rfl, ?_⟩) ?_; rotate_left
            · intro w hSw; (try dsimp only at hSw); go_simp <;> with_reducible rfl
            try simp only [Act.put, aS, aZ, aC]
            refine tkH 8 (some 19) ?_ rfl (Or.inl ⟨by rfl, ?_⟩) ?_; rotate_left
            · intro w hSw; (try dsimp only at hSw); go_simp <;> with_reducible rfl
            try simp only [Act.put, aS, aZ, aC]
            refine tkH 9 (some 20) ?_ rfl (Or.inl ⟨by rfl, ?_⟩) ?_; rotate_left
            · intro w hSw; (try dsimp only at hSw); go_simp <;> with_reducible rfl
            try simp only [Act.put, aS, aZ, aC]
            refine tkH 10 (some 21) ?_ rfl (Or.inl ⟨by rfl, ?_⟩) ?_; rotate_left
            · intro w hSw; (try dsimp only at hSw); go_simp <;> with_reducible rfl
            try simp only [Act.put, aS, aZ, aC]
            refine tkH 11 (some 22) ?_ rfl (Or.inl ⟨by rfl, ?_⟩) ?_; rotate_left
            · intro w hSw; (try dsimp only at hSw); go_simp <;> with_reducible rfl
            try simp only [Act.put, aS, aZ, aC]
            refine tkH 12 (some 23) ?_ rfl (Or.inl ⟨by rfl, ?_⟩) ?_; rotate_left
            · intro w hSw; (try dsimp only at hSw); go_simp <;> with_reducible rfl
            try simp only [Act.put, aS, aZ, aC]
            refine tkH 13 (some 24) ?_ rfl (Or.inl ⟨by rfl, ?_⟩) ?_; rotate_left
            · intro w hSw; (try dsimp only at hSw); go_simp <;> with_reducible rfl
            try simp only [Act.put, aS, aZ, aC]
            refine tkH 14 (some 25) ?_ rfl (Or.inl ⟨by rfl, ?_⟩) ?_; rotate_left
            · intro w hSw; (try dsimp only at hSw); go_simp <;> with_reducible rfl
            try simp only [Act.put, aS, aZ, aC]
            refine tkH 15 (some 26) _ rfl (yieldsIf_load_mid (by rfl) 46 _ rfl b (o + j * 35) rfl (keyV e1.key) _ (fun w h => hy1.out w h) Try.underlying46 rfl hik1) ?_
            try simp only [Act.put, aS, aZ, aC]
            refine tkH 16 (some 27) ?_ rfl (Or.inl ⟨by rfl, ?_⟩) ?_; rotate_left
            · intro w hSw; (try dsimp only at hSw); go_simp <;> with_reducible rfl
            try simp only [Act.put, aS, aZ, aC]
            refine tkH 17 (some 28) ?_ rfl (Or.inl ⟨by rfl, ?_⟩) ?_; rotate_left
            · intro w hSw; (try dsimp only at hSw); go_simp <;> with_reducible rfl
            try simp only [Act.put, aS, aZ, aC]
            refine tkH 18 (some 29) ?_ rfl (Or.inl ⟨by rfl, ?_⟩) ?_; rotate_left
            · intro w hSw; (try dsimp only at hSw); go_simp <;> with_reducible rfl
            try simp only [Act.put, aS, aZ, aC]
            refine tkH 19 (some 30) ?_ rfl (Or.inl ⟨by rfl, ?_⟩) ?_; rotate_left
            · intro w hSw; (try dsimp only at hSw); go_simp <;> with_reducible rfl
            try simp only [Act.put, aS, aZ, aC]
            refine tkH 20 (some 31) _ rfl (yieldsIf_load_mid (by rfl) 46 _ rfl b (o + k * 35) rfl (keyV e2.key) _ (fun w h => hy2.out w h) Try.underlying46 rfl hik2) ?_
            try simp only [Act.put, aS, aZ, aC]
            refine wpAnyH_ready (rs := [21]) (by kernel_rfl) (by simp) ?_
            refine AllReadyH.cons rfl (fun K hK => ?_) AllReadyH.nil
            go_simp
            refine (cL.out _ hHeld).mono ?_
            rintro r w7 ⟨rfl, b7⟩
            have b8 := hHeld.trans (b7.mono hHeld.size)
            clear hHeld b7
            refine hK.out _ _ (b8) (fun hHeld => ?_)
            clear hK K
            try simp only [Act.put, aS, aZ, aC]
            refine tkH 22 (some 33) ?_ rfl (Or.inl ⟨by rfl, ?_⟩) ?_; rotate_left
            · intro w hSw; (try dsimp only at hSw); go_simp <;> with_reducible rfl
            try simp only [Act.put, aS, aZ, aC]
            refine tkH 23 (some 34) ?_ rfl (Or.inl ⟨by rfl, ?_⟩) ?_; rotate_left
            · intro w hSw; (try dsimp only at hSw); go_simp <;> with_reducible rfl
            try simp only [Act.put, aS, aZ, aC]
            refine tkH 24 (some 35) ?_ rfl (Or.inl ⟨by rfl, ?_⟩) ?_; rotate_left
            · intro w hSw; (try dsimp only at hSw); go_simp <;> with_reducible rfl
            try simp only [Act.put, aS, aZ, aC]
            refine wpAnyH_done (by kernel_rfl) ?_ _
            skip
            go_wp2_with (fail)
            go_ret
            exact ⟨rfl, qB2.trans (hHeld.mono (by have := qB2.size; have := hn₀.out; omega))⟩
          | true =>
            rw [Bool.true_and] at hstep
            have hok : apartTo l k k = true → rGoodTo l (k + 1) = true := fun h => hstep.trans h
            have hbad : apartTo l k k = false → rb = false := fun h => by rw [← hrb2]; exact rGoodTo_stop (hstep.trans h) (by omega)
            clear hstep
            replace hrb2 := hid hrb2
            go_upto_region 4 with (fail)
            refine wp_region_held_drew (S := (fun W => Below wr.drew.heap.size wr.drew W)) (by kernel_rfl) hst (fun hHeld => ?_)
            generalize wr.drew = W5 at *
            refine tkH 0 (some 11) ?_ rfl (Or.inl ⟨by rfl, ?_⟩) ?_; rotate_left
            · intro w hSw; (try dsimp only at hSw); go_simp <;> with_reducible rfl
            try simp only [Act.put, aS, aZ, aC]
            refine tkH 1 (some 12) ?_ rfl (Or.inl ⟨by rfl, ?_⟩) ?_; rotate_left
            · intro w hSw; (try dsimp only at hSw); go_simp <;> with_reducible rfl
            try simp only [Act.put, aS, aZ, aC]
            refine tkH 2 (some 13) ?_ rfl (Or.inl ⟨by rfl, ?_⟩) ?_; rotate_left
            · intro w hSw; (try dsimp only at hSw); go_simp <;> with_reducible rfl
            try simp only [Act.put, aS, aZ, aC]
            refine tkH 3 (some 14) _ rfl (yieldsIf_load_mid (by rfl) 48 _ rfl b (o + k * 35) rfl (encE e2) _ (fun w h => hx2.out w h) Try.underlying48 rfl hi2) ?_
            try simp only [Act.put, aS, aZ, aC]
            refine wpAnyH_ready (rs := [4]) (by kernel_rfl) (by simp) ?_
            refine AllReadyH.cons rfl (fun K hK => ?_) AllReadyH.nil
            go_simp
            refine (cO.out _ hHeld).mono ?_
            rintro r w7 ⟨rfl, b7⟩
            have b8 := hHeld.trans (b7.mono hHeld.size)
            clear hHeld b7
            refine hK.out _ _ (b8) (fun hHeld => ?_)
            clear hK K
            try simp only [Act.put, aS, aZ, aC]
            refine tkH 5 (some 16) ?_ rfl (Or.inl ⟨by rfl, ?_⟩) ?_; rotate_left
            · intro w hSw; (try dsimp only at hSw); go_simp <;> with_reducible rfl
            try simp only [Act.put, aS, aZ, aC]
            refine tkH 6 (some 17) ?_ rfl (Or.inl ⟨by rfl, ?_⟩) ?_; rotate_left
            · intro w hSw; (try dsimp only at hSw); go_simp <;> with_reducible rfl
            try simp only [Act.put, aS, aZ, aC]
            refine tkH 7 (some 18) ?_ rfl (Or.inl ⟨by rfl, ?_⟩) ?_; rotate_left
            · intro w hSw; (try dsimp only at hSw); go_simp <;> with_reducible rfl
            try simp only [Act.put, aS, aZ, aC]
            refine tkH 8 (some 19) ?_ rfl (Or.inl ⟨by rfl, ?_⟩) ?_; rotate_left
            · intro w hSw; (try dsimp only at hSw); go_simp <;> with_reducible rfl
            try simp only [Act.put, aS, aZ, aC]
            refine tkH 9 (some 20) ?_ rfl (Or.inl ⟨by rfl, ?_⟩) ?_; rotate_left
            · intro w hSw; (try dsimp only at hSw); go_simp <;> with_reducible rfl
            try simp only [Act.put, aS, aZ, aC]
            refine tkH 10 (some 21) ?_ rfl (Or.inl ⟨by rfl, ?_⟩) ?_; rotate_left
            · intro w hSw; (try dsimp only at hSw); go_simp <;> with_reducible rfl
            try simp only [Act.put, aS, aZ, aC]
            refine tkH 11 (some 22) ?_ rfl (Or.inl ⟨by rfl, ?_⟩) ?_; rotate_left
            · intro w hSw; (try dsimp only at hSw); go_simp <;> with_reducible rfl
            try simp only [Act.put, aS, aZ, aC]
            refine tkH 12 (some 23) ?_ rfl (Or.inl ⟨by rfl, ?_⟩) ?_; rotate_left
            · intro w hSw; (try dsimp only at hSw); go_simp <;> with_reducible rfl
            try simp only [Act.put, aS, aZ, aC]
            refine tkH 13 (some 24) ?_ rfl (Or.inl ⟨by rfl, ?_⟩) ?_; rotate_left
            · intro w hSw; (try dsimp only at hSw); go_simp <;> with_reducible rfl
            try simp only [Act.put, aS, aZ, aC]
            refine tkH 14 (some 25) ?_ rfl (Or.inl ⟨by rfl, ?_⟩) ?_; rotate_left
            · intro w hSw; (try dsimp only at hSw); go_simp <;> with_reducible rfl
            try simp only [Act.put, aS, aZ, aC]
            refine tkH 15 (some 26) _ rfl (yieldsIf_load_mid (by rfl) 46 _ rfl b (o + j * 35) rfl (keyV e1.key) _ (fun w h => hy1.out w h) Try.underlying46 rfl hik1) ?_
            try simp only [Act.put, aS, aZ, aC]
            refine tkH 16 (some 27) ?_ rfl (Or.inl ⟨by rfl, ?_⟩) ?_; rotate_left
            · intro w hSw; (try dsimp only at hSw); go_simp <;> with_reducible rfl
            try simp only [Act.put, aS, aZ, aC]
            refine tkH 17 (some 28) ?_ rfl (Or.inl ⟨by rfl, ?_⟩) ?_; rotate_left
            · intro w hSw; (try dsimp only at hSw); go_simp <;> with_reducible rfl
            try simp only [Act.put, aS, aZ, aC]
            refine tkH 18 (some 29) ?_ rfl (Or.inl ⟨by rfl, ?_⟩) ?_; rotate_left
            · intro w hSw; (try dsimp only at hSw); go_simp <;> with_reducible rfl
            try simp only [Act.put, aS, aZ, aC]
            refine tkH 19 (some 30) ?_ rfl (Or.inl ⟨by rfl, ?_⟩) ?_; rotate_left
            · intro w hSw; (try dsimp only at hSw); go_simp <;> with_reducible rfl
            try simp only [Act.put, aS, aZ, aC]
            refine tkH 20 (some 31) _ rfl (yieldsIf_load_mid (by rfl) 46 _ rfl b (o + k * 35) rfl (keyV e2.key) _ (fun w h => hy2.out w h) Try.underlying46 rfl hik2) ?_
            try simp only [Act.put, aS, aZ, aC]
            refine wpAnyH_ready (rs := [21]) (by kernel_rfl) (by simp) ?_
            refine AllReadyH.cons rfl (fun K hK => ?_) AllReadyH.nil
            go_simp
            refine (cL.out _ hHeld).mono ?_
            rintro r w7 ⟨rfl, b7⟩
            have b8 := hHeld.trans (b7.mono hHeld.size)
            clear hHeld b7
            refine hK.out _ _ (b8) (fun hHeld => ?_)
            clear hK K
            try simp only [Act.put, aS, aZ, aC]
            refine tkH 22 (some 33) ?_ rfl (Or.inl ⟨by rfl, ?_⟩) ?_; rotate_left
            · intro w hSw; (try dsimp only at hSw); go_simp <;> with_reducible rfl
            try simp only [Act.put, aS, aZ, aC]
            refine tkH 23 (some 34) ?_ rfl (Or.inl ⟨by rfl, ?_⟩) ?_; rotate_left
            · intro w hSw; (try dsimp only at hSw); go_simp <;> with_reducible rfl
            try simp only [Act.put, aS, aZ, aC]
            refine tkH 24 (some 35) ?_ rfl (Or.inl ⟨by rfl, ?_⟩) ?_; rotate_left
            · intro w hSw; (try dsimp only at hSw); go_simp <;> with_reducible rfl
            try simp only [Act.put, aS, aZ, aC]
            refine wpAnyH_done (by kernel_rfl) ?_ _
            skip
            clear cL hy1 hik1
            have qB7 : Below n₀ w w7 := qB2.trans (hHeld.mono (by have := qB2.size; have := hn₀.out; omega))
            clear hHeld qB2 cO hst
            replace hbad := hid hbad
            replace hok := hid hok
            go_wp2_with (fail)
            go_loopw [4] (fun jv wz => ∃ j : Nat, j ≤ k ∧ jv = .int .i64 j ∧ apartTo l k j = true ∧ Below n₀ w wz) (fun jv _ => k - (RowKit.intOf jv).toNat)
            case atStart => exact ⟨0, Nat.zero_le _, rfl, rfl, qB7⟩
            case round =>
              obtain ⟨j, hjk, rfl, hap, zB⟩ := hrel
              clear qB7
              by_cases hjl : j < k
              · have hjkI : (j : Int) < (k : Int) := by omega
                have hjLI : (j : Int) < (L : Int) := by omega
                obtain ⟨ea, hea⟩ : ∃ e, l[j]? = some e := ⟨_, List.getElem?_eq_getElem (by have := hL.out; omega)⟩
                have hka := hk ea (List.mem_of_getElem? hea)
                have hoa : oneE ea = true := by
                  have h9 := rGoodTo_at hacc.out hjl
                  unfold okAt oneAt at h9
                  rw [hea, Bool.and_eq_true] at h9
                  exact h9.1
                obtain ⟨p1, p2, p3, p4, p5, -, -⟩ := oneE_is hoa
                obtain ⟨q1, q2, q3, q4, q5, -, -⟩ := oneE_is ho.out
                have zB2 : Below n₀ w wr.drew := zB.drewN 1
                obtain ⟨c1, c2, -⟩ := cell_place (hcB.out _ zB2 k e2 he2.out) hk2
                obtain ⟨c3, c4, -⟩ := cell_place (hcB.out _ zB2 j ea hea) hka
                have hov : overE (l.getD j entD) (l.getD k entD) = (decide (ea.place < e2.place + e2.blocks) && decide (e2.place < ea.place + ea.blocks)) := by
                  rw [List.getD_eq_getElem?_getD, List.getD_eq_getElem?_getD, hea, he2.out]; rfl
                have hstp := apartTo_succ l k j
                rw [hap, Bool.true_and, hov] at hstp
                have hw1 : IntKind.i64.wrap (e2.place + e2.blocks) = e2.place + e2.blocks := by rw [IntKind.wrap_i64]; omega
                have hw2 : IntKind.i64.wrap (ea.place + ea.blocks) = ea.place + ea.blocks := by rw [IntKind.wrap_i64]; omega
                clear hov hea hap zB hoa p1 p2 p3 p4 p5 q1 q2 q3 q4 q5
                have hst : (fun W => W.cell? ⟨b, o + k * 35 + 32, none⟩ = some (.int .i64 e2.place) ∧ W.cell? ⟨b, o + k * 35 + 33, none⟩ = some (.int .i64 e2.blocks) ∧ W.cell? ⟨b, o + j * 35 + 32, none⟩ = some (.int .i64 ea.place) ∧ W.cell? ⟨b, o + j * 35 + 33, none⟩ = some (.int .i64 ea.blocks)) wr.drew := ⟨c1, c2, c3, c4⟩
                clear c1 c2 c3 c4
                obtain ⟨pi, hpi⟩ : ∃ x, e2.place = x := ⟨_, rfl⟩
                obtain ⟨bi, hbi⟩ : ∃ x, e2.blocks = x := ⟨_, rfl⟩
                obtain ⟨pj, hpj⟩ : ∃ x, ea.place = x := ⟨_, rfl⟩
                obtain ⟨bj, hbj⟩ : ∃ x, ea.blocks = x := ⟨_, rfl⟩
                rw [hpi, hbi, hpj, hbj] at hst hstp
                rw [hpi, hbi] at hw1
                rw [hpj, hbj] at hw2
                clear hpi hbi hpj hbj
                by_cases m1 : pj < pi + bi
                · by_cases m2 : pi < pj + bj
                  · rw [decide_eq_true m1, decide_eq_true m2] at hstp
                    obtain rfl := hbad.out (apartTo_stop hstp (by omega))
                    clear hstp
                    go_upto_region 9 with (fail)
                    refine wp_region_held_drew (S := (fun W => W.cell? ⟨b, o + k * 35 + 32, none⟩ = some (.int .i64 pi) ∧ W.cell? ⟨b, o + k * 35 + 33, none⟩ = some (.int .i64 bi) ∧ W.cell? ⟨b, o + j * 35 + 32, none⟩ = some (.int .i64 pj) ∧ W.cell? ⟨b, o + j * 35 + 33, none⟩ = some (.int .i64 bj))) (by kernel_rfl) hst (fun hHeld => ?_)
                    refine tkH 0 (some 41) ?_ rfl (Or.inl ⟨by rfl, ?_⟩) ?_; rotate_left
                    · intro w hSw; (try dsimp only at hSw); go_simp <;> with_reducible rfl
                    try simp only [Act.put, aS, aZ, aC]
                    refine tkH 1 (some 42) ?_ rfl (Or.inl ⟨by rfl, ?_⟩) ?_; rotate_left
                    · intro w hSw; (try dsimp only at hSw); go_simp <;> with_reducible rfl
                    try simp only [Act.put, aS, aZ, aC]
                    refine tkH 2 (some 43) ?_ rfl (Or.inl ⟨by rfl, ?_⟩) ?_; rotate_left
                    · intro w hSw; (try dsimp only at hSw); go_simp <;> with_reducible rfl
                    try simp only [Act.put, aS, aZ, aC]
                    refine tkH 3 (some 44) ?_ rfl (Or.inl ⟨by rfl, ?_⟩) ?_; rotate_left
                    · intro w hSw; (try dsimp only at hSw); go_simp <;> with_reducible rfl
                    try simp only [Act.put, aS, aZ, aC]
                    refine tkH 4 (some 45) ?_ rfl (Or.inl ⟨by rfl, ?_⟩) ?_; rotate_left
                    · intro w hSw; (try dsimp only at hSw); go_simp <;> with_reducible rfl
                    try simp only [Act.put, aS, aZ, aC]
                    refine tkH 5 (some 46) ?_ rfl (Or.inl ⟨by rfl, ?_⟩) ?_; rotate_left
                    · intro w hSw; (try dsimp only at hSw); go_simp <;> with_reducible rfl
                    try simp only [Act.put, aS, aZ, aC]
                    refine tkH 6 (some 47) ?_ rfl (Or.inl ⟨by rfl, ?_⟩) ?_; rotate_left
                    · intro w hSw; (try dsimp only at hSw); go_simp <;> with_reducible rfl
                    try simp only [Act.put, aS, aZ, aC]
                    refine tkH 7 (some 48) ?_ rfl (Or.inl ⟨by rfl, ?_⟩) ?_; rotate_left
                    · intro w hSw; (try dsimp only at hSw); go_simp <;> with_reducible rfl
                    try simp only [Act.put, aS, aZ, aC]
                    refine tkH 8 (some 49) ?_ rfl (Or.inl ⟨by rfl, ?_⟩) ?_; rotate_left
                    · intro w hSw; (try dsimp only at hSw); go_simp <;> with_reducible rfl
                    try simp only [Act.put, aS, aZ, aC]
                    refine tkH 9 (some 50) ?_ rfl (Or.inl ⟨by rfl, ?_⟩) ?_; rotate_left
                    · intro w hSw; (try dsimp only at hSw); go_simp <;> with_reducible rfl
                    try simp only [Act.put, aS, aZ, aC]
                    refine tkH 10 (some 51) ?_ rfl (Or.inl ⟨by rfl, ?_⟩) ?_; rotate_left
                    · intro w hSw; (try dsimp only at hSw); go_simp <;> with_reducible rfl
                    try simp only [Act.put, aS, aZ, aC]
                    refine tkH 11 (some 52) ?_ rfl (Or.inl ⟨by rfl, ?_⟩) ?_; rotate_left
                    · intro w hSw; (try dsimp only at hSw); go_simp <;> with_reducible rfl
                    try simp only [Act.put, aS, aZ, aC]
                    refine tkH 12 (some 53) ?_ rfl (Or.inl ⟨by rfl, ?_⟩) ?_; rotate_left
                    · intro w hSw; (try dsimp only at hSw); go_simp <;> with_reducible rfl
                    try simp only [Act.put, aS, aZ, aC]
                    refine tkH 13 (some 54) ?_ rfl (Or.inl ⟨by rfl, ?_⟩) ?_; rotate_left
                    · intro w hSw; (try dsimp only at hSw); go_simp <;> with_reducible rfl
                    try simp only [Act.put, aS, aZ, aC]
                    refine tkH 14 (some 55) ?_ rfl (Or.inl ⟨by rfl, ?_⟩) ?_; rotate_left
                    · intro w hSw; (try dsimp only at hSw); go_simp <;> with_reducible rfl
                    try simp only [Act.put, aS, aZ, aC]
                    refine tkH 15 (some 56) ?_ rfl (Or.inl ⟨by rfl, ?_⟩) ?_; rotate_left
                    · intro w hSw; (try dsimp only at hSw); go_simp <;> with_reducible rfl
                    try simp only [Act.put, aS, aZ, aC]
                    refine tkH 16 (some 57) ?_ rfl (Or.inl ⟨by rfl, ?_⟩) ?_; rotate_left
                    · intro w hSw; (try dsimp only at hSw); go_simp <;> with_reducible rfl
                    try simp only [Act.put, aS, aZ, aC]
                    refine tkH 17 (some 58) ?_ rfl (Or.inl ⟨by rfl, ?_⟩) ?_; rotate_left
                    · intro w hSw; (try dsimp only at hSw); go_simp <;> with_reducible rfl
                    try simp only [Act.put, aS, aZ, aC]
                    refine tkH 18 (some 59) ?_ rfl (Or.inl ⟨by rfl, ?_⟩) ?_; rotate_left
                    · intro w hSw; (try dsimp only at hSw); go_simp <;> with_reducible rfl
                    try simp only [Act.put, aS, aZ, aC]
                    refine tkH 19 (some 60) ?_ rfl (Or.inl ⟨by rfl, ?_⟩) ?_; rotate_left
                    · intro w hSw; (try dsimp only at hSw); go_simp <;> with_reducible rfl
                    try simp only [Act.put, aS, aZ, aC]
                    refine tkH 20 (some 61) ?_ rfl (Or.inl ⟨by rfl, ?_⟩) ?_; rotate_left
                    · intro w hSw; (try dsimp only at hSw); go_simp <;> with_reducible rfl
                    try simp only [Act.put, aS, aZ, aC]
                    refine tkH 21 (some 62) ?_ rfl (Or.inl ⟨by rfl, ?_⟩) ?_; rotate_left
                    · intro w hSw; (try dsimp only at hSw); go_simp <;> with_reducible rfl
                    try simp only [Act.put, aS, aZ, aC]
                    refine tkH 22 (some 63) ?_ rfl (Or.inl ⟨by rfl, ?_⟩) ?_; rotate_left
                    · intro w hSw; (try dsimp only at hSw); go_simp <;> with_reducible rfl
                    try simp only [Act.put, aS, aZ, aC]
                    refine tkH 23 (some 64) ?_ rfl (Or.inl ⟨by rfl, ?_⟩) ?_; rotate_left
                    · intro w hSw; (try dsimp only at hSw); go_simp <;> with_reducible rfl
                    try simp only [Act.put, aS, aZ, aC]
                    refine tkH 24 (some 65) ?_ rfl (Or.inl ⟨by rfl, ?_⟩) ?_; rotate_left
                    · intro w hSw; (try dsimp only at hSw); go_simp <;> with_reducible rfl
                    try simp only [Act.put, aS, aZ, aC]
                    refine tkH 25 (some 66) ?_ rfl (Or.inl ⟨by rfl, ?_⟩) ?_; rotate_left
                    · intro w hSw; (try dsimp only at hSw); go_simp <;> with_reducible rfl
                    try simp only [Act.put, aS, aZ, aC]
                    refine tkH 26 (some 67) ?_ rfl (Or.inl ⟨by rfl, ?_⟩) ?_; rotate_left
                    · intro w hSw; (try dsimp only at hSw); go_simp <;> with_reducible rfl
                    try simp only [Act.put, aS, aZ, aC]
                    refine tkH 27 (some 68) ?_ rfl (Or.inl ⟨by rfl, ?_⟩) ?_; rotate_left
                    · intro w hSw; (try dsimp only at hSw); go_simp <;> with_reducible rfl
                    try simp only [Act.put, aS, aZ, aC]
                    refine tkH 28 (some 69) ?_ rfl (Or.inl ⟨by rfl, ?_⟩) ?_; rotate_left
                    · intro w hSw; (try dsimp only at hSw); go_simp <;> with_reducible rfl
                    try simp only [Act.put, aS, aZ, aC]
                    refine tkH 29 (some 70) ?_ rfl (Or.inl ⟨by rfl, ?_⟩) ?_; rotate_left
                    · intro w hSw; (try dsimp only at hSw); go_simp <;> with_reducible rfl
                    try simp only [Act.put, aS, aZ, aC]
                    refine tkH 30 (some 71) ?_ rfl (Or.inl ⟨by rfl, ?_⟩) ?_; rotate_left
                    · intro w hSw; (try dsimp only at hSw); go_simp <;> with_reducible rfl
                    try simp only [Act.put, aS, aZ, aC]
                    refine tkH 31 (some 72) ?_ rfl (Or.inl ⟨by rfl, ?_⟩) ?_; rotate_left
                    · intro w hSw; (try dsimp only at hSw); go_simp <;> with_reducible rfl
                    try simp only [Act.put, aS, aZ, aC]
                    refine tkH 32 (some 73) ?_ rfl (Or.inl ⟨by rfl, ?_⟩) ?_; rotate_left
                    · intro w hSw; (try dsimp only at hSw); go_simp <;> with_reducible rfl
                    try simp only [Act.put, aS, aZ, aC]
                    refine tkH 33 (some 74) ?_ rfl (Or.inl ⟨by rfl, ?_⟩) ?_; rotate_left
                    · intro w hSw; (try dsimp only at hSw); go_simp <;> with_reducible rfl
                    try simp only [Act.put, aS, aZ, aC]
                    refine tkH 34 (some 75) ?_ rfl (Or.inl ⟨by rfl, ?_⟩) ?_; rotate_left
                    · intro w hSw; (try dsimp only at hSw); go_simp <;> with_reducible rfl
                    try simp only [Act.put, aS, aZ, aC]
                    refine tkH 35 (some 76) ?_ rfl (Or.inl ⟨by rfl, ?_⟩) ?_; rotate_left
                    · intro w hSw; (try dsimp only at hSw); go_simp <;> with_reducible rfl
                    try simp only [Act.put, aS, aZ, aC]
                    refine wpAnyH_done (by kernel_rfl) ?_ _
                    skip
                    go_wp2_with (fail)
                    go_ret
                    exact ⟨rfl, zB2⟩
                  · rw [decide_eq_false m2, Bool.and_false] at hstp
                    replace hstp := hid hstp
                    go_upto_region 9 with (fail)
                    refine wp_region_held_drew (S := (fun W => W.cell? ⟨b, o + k * 35 + 32, none⟩ = some (.int .i64 pi) ∧ W.cell? ⟨b, o + k * 35 + 33, none⟩ = some (.int .i64 bi) ∧ W.cell? ⟨b, o + j * 35 + 32, none⟩ = some (.int .i64 pj) ∧ W.cell? ⟨b, o + j * 35 + 33, none⟩ = some (.int .i64 bj))) (by kernel_rfl) hst (fun hHeld => ?_)
                    refine tkH 0 (some 41) ?_ rfl (Or.inl ⟨by rfl, ?_⟩) ?_; rotate_left
                    · intro w hSw; (try dsimp only at hSw); go_simp <;> with_reducible rfl
                    try simp only [Act.put, aS, aZ, aC]
                    refine tkH 1 (some 42) ?_ rfl (Or.inl ⟨by rfl, ?_⟩) ?_; rotate_left
                    · intro w hSw; (try dsimp only at hSw); go_simp <;> with_reducible rfl
                    try simp only [Act.put, aS, aZ, aC]
                    refine tkH 2 (some 43) ?_ rfl (Or.inl ⟨by rfl, ?_⟩) ?_; rotate_left
                    · intro w hSw; (try dsimp only at hSw); go_simp <;> with_reducible rfl
                    try simp only [Act.put, aS, aZ, aC]
                    refine tkH 3 (some 44) ?_ rfl (Or.inl ⟨by rfl, ?_⟩) ?_; rotate_left
                    · intro w hSw; (try dsimp only at hSw); go_simp <;> with_reducible rfl
                    try simp only [Act.put, aS, aZ, aC]
                    refine tkH 4 (some 45) ?_ rfl (Or.inl ⟨by rfl, ?_⟩) ?_; rotate_left
                    · intro w hSw; (try dsimp only at hSw); go_simp <;> with_reducible rfl
                    try simp only [Act.put, aS, aZ, aC]
                    refine tkH 5 (some 46) ?_ rfl (Or.inl ⟨by rfl, ?_⟩) ?_; rotate_left
                    · intro w hSw; (try dsimp only at hSw); go_simp <;> with_reducible rfl
                    try simp only [Act.put, aS, aZ, aC]
                    refine tkH 6 (some 47) ?_ rfl (Or.inl ⟨by rfl, ?_⟩) ?_; rotate_left
                    · intro w hSw; (try dsimp only at hSw); go_simp <;> with_reducible rfl
                    try simp only [Act.put, aS, aZ, aC]
                    refine tkH 7 (some 48) ?_ rfl (Or.inl ⟨by rfl, ?_⟩) ?_; rotate_left
                    · intro w hSw; (try dsimp only at hSw); go_simp <;> with_reducible rfl
                    try simp only [Act.put, aS, aZ, aC]
                    refine tkH 8 (some 49) ?_ rfl (Or.inl ⟨by rfl, ?_⟩) ?_; rotate_left
                    · intro w hSw; (try dsimp only at hSw); go_simp <;> with_reducible rfl
                    try simp only [Act.put, aS, aZ, aC]
                    refine tkH 9 (some 50) ?_ rfl (Or.inl ⟨by rfl, ?_⟩) ?_; rotate_left
                    · intro w hSw; (try dsimp only at hSw); go_simp <;> with_reducible rfl
                    try simp only [Act.put, aS, aZ, aC]
                    refine tkH 10 (some 51) ?_ rfl (Or.inl ⟨by rfl, ?_⟩) ?_; rotate_left
                    · intro w hSw; (try dsimp only at hSw); go_simp <;> with_reducible rfl
                    try simp only [Act.put, aS, aZ, aC]
                    refine tkH 11 (some 52) ?_ rfl (Or.inl ⟨by rfl, ?_⟩) ?_; rotate_left
                    · intro w hSw; (try dsimp only at hSw); go_simp <;> with_reducible rfl
                    try simp only [Act.put, aS, aZ, aC]
                    refine tkH 12 (some 53) ?_ rfl (Or.inl ⟨by rfl, ?_⟩) ?_; rotate_left
                    · intro w hSw; (try dsimp only at hSw); go_simp <;> with_reducible rfl
                    try simp only [Act.put, aS, aZ, aC]
                    refine tkH 13 (some 54) ?_ rfl (Or.inl ⟨by rfl, ?_⟩) ?_; rotate_left
                    · intro w hSw; (try dsimp only at hSw); go_simp <;> with_reducible rfl
                    try simp only [Act.put, aS, aZ, aC]
                    refine tkH 14 (some 55) ?_ rfl (Or.inl ⟨by rfl, ?_⟩) ?_; rotate_left
                    · intro w hSw; (try dsimp only at hSw); go_simp <;> with_reducible rfl
                    try simp only [Act.put, aS, aZ, aC]
                    refine tkH 15 (some 56) ?_ rfl (Or.inl ⟨by rfl, ?_⟩) ?_; rotate_left
                    · intro w hSw; (try dsimp only at hSw); go_simp <;> with_reducible rfl
                    try simp only [Act.put, aS, aZ, aC]
                    refine tkH 16 (some 57) ?_ rfl (Or.inl ⟨by rfl, ?_⟩) ?_; rotate_left
                    · intro w hSw; (try dsimp only at hSw); go_simp <;> with_reducible rfl
                    try simp only [Act.put, aS, aZ, aC]
                    refine tkH 17 (some 58) ?_ rfl (Or.inl ⟨by rfl, ?_⟩) ?_; rotate_left
                    · intro w hSw; (try dsimp only at hSw); go_simp <;> with_reducible rfl
                    try simp only [Act.put, aS, aZ, aC]
                    refine tkH 18 (some 59) ?_ rfl (Or.inl ⟨by rfl, ?_⟩) ?_; rotate_left
                    · intro w hSw; (try dsimp only at hSw); go_simp <;> with_reducible rfl
                    try simp only [Act.put, aS, aZ, aC]
                    refine tkH 19 (some 60) ?_ rfl (Or.inl ⟨by rfl, ?_⟩) ?_; rotate_left
                    · intro w hSw; (try dsimp only at hSw); go_simp <;> with_reducible rfl
                    try simp only [Act.put, aS, aZ, aC]
                    refine tkH 20 (some 61) ?_ rfl (Or.inl ⟨by rfl, ?_⟩) ?_; rotate_left
                    · intro w hSw; (try dsimp only at hSw); go_simp <;> with_reducible rfl
                    try simp only [Act.put, aS, aZ, aC]
                    refine tkH 21 (some 62) ?_ rfl (Or.inl ⟨by rfl, ?_⟩) ?_; rotate_left
                    · intro w hSw; (try dsimp only at hSw); go_simp <;> with_reducible rfl
                    try simp only [Act.put, aS, aZ, aC]
                    refine tkH 22 (some 63) ?_ rfl (Or.inl ⟨by rfl, ?_⟩) ?_; rotate_left
                    · intro w hSw; (try dsimp only at hSw); go_simp <;> with_reducible rfl
                    try simp only [Act.put, aS, aZ, aC]
                    refine tkH 23 (some 64) ?_ rfl (Or.inl ⟨by rfl, ?_⟩) ?_; rotate_left
                    · intro w hSw; (try dsimp only at hSw); go_simp <;> with_reducible rfl
                    try simp only [Act.put, aS, aZ, aC]
                    refine tkH 24 (some 65) ?_ rfl (Or.inl ⟨by rfl, ?_⟩) ?_; rotate_left
                    · intro w hSw; (try dsimp only at hSw); go_simp <;> with_reducible rfl
                    try simp only [Act.put, aS, aZ, aC]
                    refine tkH 25 (some 66) ?_ rfl (Or.inl ⟨by rfl, ?_⟩) ?_; rotate_left
                    · intro w hSw; (try dsimp only at hSw); go_simp <;> with_reducible rfl
                    try simp only [Act.put, aS, aZ, aC]
                    refine tkH 26 (some 67) ?_ rfl (Or.inl ⟨by rfl, ?_⟩) ?_; rotate_left
                    · intro w hSw; (try dsimp only at hSw); go_simp <;> with_reducible rfl
                    try simp only [Act.put, aS, aZ, aC]
                    refine tkH 27 (some 68) ?_ rfl (Or.inl ⟨by rfl, ?_⟩) ?_; rotate_left
                    · intro w hSw; (try dsimp only at hSw); go_simp <;> with_reducible rfl
                    try simp only [Act.put, aS, aZ, aC]
                    refine tkH 28 (some 69) ?_ rfl (Or.inl ⟨by rfl, ?_⟩) ?_; rotate_left
                    · intro w hSw; (try dsimp only at hSw); go_simp <;> with_reducible rfl
                    try simp only [Act.put, aS, aZ, aC]
                    refine tkH 29 (some 70) ?_ rfl (Or.inl ⟨by rfl, ?_⟩) ?_; rotate_left
                    · intro w hSw; (try dsimp only at hSw); go_simp <;> with_reducible rfl
                    try simp only [Act.put, aS, aZ, aC]
                    refine tkH 30 (some 71) ?_ rfl (Or.inl ⟨by rfl, ?_⟩) ?_; rotate_left
                    · intro w hSw; (try dsimp only at hSw); go_simp <;> with_reducible rfl
                    try simp only [Act.put, aS, aZ, aC]
                    refine tkH 31 (some 72) ?_ rfl (Or.inl ⟨by rfl, ?_⟩) ?_; rotate_left
                    · intro w hSw; (try dsimp only at hSw); go_simp <;> with_reducible rfl
                    try simp only [Act.put, aS, aZ, aC]
                    refine tkH 32 (some 73) ?_ rfl (Or.inl ⟨by rfl, ?_⟩) ?_; rotate_left
                    · intro w hSw; (try dsimp only at hSw); go_simp <;> with_reducible rfl
                    try simp only [Act.put, aS, aZ, aC]
                    refine tkH 33 (some 74) ?_ rfl (Or.inl ⟨by rfl, ?_⟩) ?_; rotate_left
                    · intro w hSw; (try dsimp only at hSw); go_simp <;> with_reducible rfl
                    try simp only [Act.put, aS, aZ, aC]
                    refine tkH 34 (some 75) ?_ rfl (Or.inl ⟨by rfl, ?_⟩) ?_; rotate_left
                    · intro w hSw; (try dsimp only at hSw); go_simp <;> with_reducible rfl
                    try simp only [Act.put, aS, aZ, aC]
                    refine tkH 35 (some 76) ?_ rfl (Or.inl ⟨by rfl, ?_⟩) ?_; rotate_left
                    · intro w hSw; (try dsimp only at hSw); go_simp <;> with_reducible rfl
                    try simp only [Act.put, aS, aZ, aC]
                    refine wpAnyH_done (by kernel_rfl) ?_ _
                    skip
                    go_wp2_with (fail)
                    refine ⟨?_, ?_⟩
                    · first | exact ⟨j + 1, by omega, by go_num, hstp.out, zB2⟩ | ((repeat apply Exists.intro); refine ⟨?_, rfl⟩; exact ⟨j + 1, by omega, by go_num, hstp.out, zB2⟩)
                    · simp [RowKit.intOf]; omega
                · rw [decide_eq_false m1, Bool.false_and] at hstp
                  replace hstp := hid hstp
                  go_upto_region 9 with (fail)
                  refine wp_region_held_drew (S := (fun W => W.cell? ⟨b, o + k * 35 + 32, none⟩ = some (.int .i64 pi) ∧ W.cell? ⟨b, o + k * 35 + 33, none⟩ = some (.int .i64 bi) ∧ W.cell? ⟨b, o + j * 35 + 32, none⟩ = some (.int .i64 pj) ∧ W.cell? ⟨b, o + j * 35 + 33, none⟩ = some (.int .i64 bj))) (by kernel_rfl) hst (fun hHeld => ?_)
                  refine tkH 0 (some 41) ?_ rfl (Or.inl ⟨by rfl, ?_⟩) ?_; rotate_left
                  · intro w hSw; (try dsimp only at hSw); go_simp <;> with_reducible rfl
                  try simp only [Act.put, aS, aZ, aC]
                  refine tkH 1 (some 42) ?_ rfl (Or.inl ⟨by rfl, ?_⟩) ?_; rotate_left
                  · intro w hSw; (try dsimp only at hSw); go_simp <;> with_reducible rfl
                  try simp only [Act.put, aS, aZ, aC]
                  refine tkH 2 (some 43) ?_ rfl (Or.inl ⟨by rfl, ?_⟩) ?_; rotate_left
                  · intro w hSw; (try dsimp only at hSw); go_simp <;> with_reducible rfl
                  try simp only [Act.put, aS, aZ, aC]
                  refine tkH 3 (some 44) ?_ rfl (Or.inl ⟨by rfl, ?_⟩) ?_; rotate_left
                  · intro w hSw; (try dsimp only at hSw); go_simp <;> with_reducible rfl
                  try simp only [Act.put, aS, aZ, aC]
                  refine tkH 4 (some 45) ?_ rfl (Or.inl ⟨by rfl, ?_⟩) ?_; rotate_left
                  · intro w hSw; (try dsimp only at hSw); go_simp <;> with_reducible rfl
                  try simp only [Act.put, aS, aZ, aC]
                  refine tkH 5 (some 46) ?_ rfl (Or.inl ⟨by rfl, ?_⟩) ?_; rotate_left
                  · intro w hSw; (try dsimp only at hSw); go_simp <;> with_reducible rfl
                  try simp only [Act.put, aS, aZ, aC]
                  refine tkH 6 (some 47) ?_ rfl (Or.inl ⟨by rfl, ?_⟩) ?_; rotate_left
                  · intro w hSw; (try dsimp only at hSw); go_simp <;> with_reducible rfl
                  try simp only [Act.put, aS, aZ, aC]
                  refine tkH 7 (some 48) ?_ rfl (Or.inl ⟨by rfl, ?_⟩) ?_; rotate_left
                  · intro w hSw; (try dsimp only at hSw); go_simp <;> with_reducible rfl
                  try simp only [Act.put, aS, aZ, aC]
                  refine tkH 8 (some 49) ?_ rfl (Or.inl ⟨by rfl, ?_⟩) ?_; rotate_left
                  · intro w hSw; (try dsimp only at hSw); go_simp <;> with_reducible rfl
                  try simp only [Act.put, aS, aZ, aC]
                  refine tkH 9 (some 50) ?_ rfl (Or.inl ⟨by rfl, ?_⟩) ?_; rotate_left
                  · intro w hSw; (try dsimp only at hSw); go_simp <;> with_reducible rfl
                  try simp only [Act.put, aS, aZ, aC]
                  refine tkH 10 (some 51) ?_ rfl (Or.inl ⟨by rfl, ?_⟩) ?_; rotate_left
                  · intro w hSw; (try dsimp only at hSw); go_simp <;> with_reducible rfl
                  try simp only [Act.put, aS, aZ, aC]
                  refine tkH 11 (some 52) ?_ rfl (Or.inl ⟨by rfl, ?_⟩) ?_; rotate_left
                  · intro w hSw; (try dsimp only at hSw); go_simp <;> with_reducible rfl
                  try simp only [Act.put, aS, aZ, aC]
                  refine tkH 12 (some 53) ?_ rfl (Or.inl ⟨by rfl, ?_⟩) ?_; rotate_left
                  · intro w hSw; (try dsimp only at hSw); go_simp <;> with_reducible rfl
                  try simp only [Act.put, aS, aZ, aC]
                  refine tkH 13 (some 54) ?_ rfl (Or.inl ⟨by rfl, ?_⟩) ?_; rotate_left
                  · intro w hSw; (try dsimp only at hSw); go_simp <;> with_reducible rfl
                  try simp only [Act.put, aS, aZ, aC]
                  refine tkH 14 (some 55) ?_ rfl (Or.inl ⟨by rfl, ?_⟩) ?_; rotate_left
                  · intro w hSw; (try dsimp only at hSw); go_simp <;> with_reducible rfl
                  try simp only [Act.put, aS, aZ, aC]
                  refine tkH 15 (some 56) ?_ rfl (Or.inl ⟨by rfl, ?_⟩) ?_; rotate_left
                  · intro w hSw; (try dsimp only at hSw); go_simp <;> with_reducible rfl
                  try simp only [Act.put, aS, aZ, aC]
                  refine tkH 16 (some 57) ?_ rfl (Or.inl ⟨by rfl, ?_⟩) ?_; rotate_left
                  · intro w hSw; (try dsimp only at hSw); go_simp <;> with_reducible rfl
                  try simp only [Act.put, aS, aZ, aC]
                  refine tkH 17 (some 58) ?_ rfl (Or.inl ⟨by rfl, ?_⟩) ?_; rotate_left
                  · intro w hSw; (try dsimp only at hSw); go_simp <;> with_reducible rfl
                  try simp only [Act.put, aS, aZ, aC]
                  refine tkH 18 (some 59) _ rfl (Or.inr ⟨by rfl, rfl⟩) ?_
                  try simp only [Act.put, aS, aZ, aC]
                  refine tkH 19 (some 60) _ rfl (Or.inr ⟨by rfl, rfl⟩) ?_
                  try simp only [Act.put, aS, aZ, aC]
                  refine tkH 20 (some 61) _ rfl (Or.inr ⟨by rfl, rfl⟩) ?_
                  try simp only [Act.put, aS, aZ, aC]
                  refine tkH 21 (some 62) _ rfl (Or.inr ⟨by rfl, rfl⟩) ?_
                  try simp only [Act.put, aS, aZ, aC]
                  refine tkH 22 (some 63) _ rfl (Or.inr ⟨by rfl, rfl⟩) ?_
                  try simp only [Act.put, aS, aZ, aC]
                  refine tkH 23 (some 64) _ rfl (Or.inr ⟨by rfl, rfl⟩) ?_
                  try simp only [Act.put, aS, aZ, aC]
                  refine tkH 24 (some 65) _ rfl (Or.inr ⟨by rfl, rfl⟩) ?_
                  try simp only [Act.put, aS, aZ, aC]
                  refine tkH 25 (some 66) _ rfl (Or.inr ⟨by rfl, rfl⟩) ?_
                  try simp only [Act.put, aS, aZ, aC]
                  refine tkH 26 (some 67) _ rfl (Or.inr ⟨by rfl, rfl⟩) ?_
                  try simp only [Act.put, aS, aZ, aC]
                  refine tkH 27 (some 68) _ rfl (Or.inr ⟨by rfl, rfl⟩) ?_
                  try simp only [Act.put, aS, aZ, aC]
                  refine tkH 28 (some 69) _ rfl (Or.inr ⟨by rfl, rfl⟩) ?_
                  try simp only [Act.put, aS, aZ, aC]
                  refine tkH 29 (some 70) _ rfl (Or.inr ⟨by rfl, rfl⟩) ?_
                  try simp only [Act.put, aS, aZ, aC]
                  refine tkH 30 (some 71) _ rfl (Or.inr ⟨by rfl, rfl⟩) ?_
                  try simp only [Act.put, aS, aZ, aC]
                  refine tkH 31 (some 72) _ rfl (Or.inr ⟨by rfl, rfl⟩) ?_
                  try simp only [Act.put, aS, aZ, aC]
                  refine tkH 32 (some 73) _ rfl (Or.inr ⟨by rfl, rfl⟩) ?_
                  try simp only [Act.put, aS, aZ, aC]
                  refine tkH 33 (some 74) _ rfl (Or.inr ⟨by rfl, rfl⟩) ?_
                  try simp only [Act.put, aS, aZ, aC]
                  refine tkH 34 (some 75) _ rfl (Or.inr ⟨by rfl, rfl⟩) ?_
                  try simp only [Act.put, aS, aZ, aC]
                  refine tkH 35 (some 76) ?_ rfl (Or.inl ⟨by rfl, ?_⟩) ?_; rotate_left
                  · intro w hSw; (try dsimp only at hSw); go_simp <;> with_reducible rfl
                  try simp only [Act.put, aS, aZ, aC]
                  refine wpAnyH_done (by kernel_rfl) ?_ _
                  skip
                  go_wp2_with (fail)
                  refine ⟨?_, ?_⟩
                  · first | exact ⟨j + 1, by omega, by go_num, hstp.out, zB2⟩ | ((repeat apply Exists.intro); refine ⟨?_, rfl⟩; exact ⟨j + 1, by omega, by go_num, hstp.out, zB2⟩)
                  · simp [RowKit.intOf]; omega
              · obtain rfl : j = k := by omega
                have hst2 := hid (hok.out hap)
                clear hap
                go_wp2_with (fail)
                refine ⟨?_, ?_⟩
                · first | exact ⟨j + 1, by omega, by go_num, hst2.out, zB⟩ | ((repeat apply Exists.intro); refine ⟨?_, rfl⟩; exact ⟨j + 1, by omega, by go_num, hst2.out, zB⟩)
                · simp [RowKit.intOf]; omega
    · obtain rfl : k = L := by omega
      obtain rfl : rb = true := by rw [← hrb2]; exact hacc
      clear hrb2 hacc
      go_wp2_with (fail)
      go_ret
      exact ⟨rfl, qB⟩
end Go.Proofs.Ytomgjapjeckokaa
