/- IndexOrder: for every input the law returns true, and its arguments read as they did (XIyT, XIzC, XIzD, XIzE, XIzF, XIyV, XIzI, XIndexOrder in one text). -/
import Derived.Test.YtomgjapjeckokaaIyS
import Derived.Deep.RegionHeld3
import Derived.Test.YtomgjapjeckokaaIyQ
import Derived.Deep.DeepCutAuto
import Derived.Deep.CutBlock
import Derived.Test.YtomgjapjeckokaaIyM
import Derived.Test.YtomgjapjeckokaaLaw
namespace Go.Proofs.Ytomgjapjeckokaa
open Go.RowKit Go.Shelf Go.Lib

section
variable {P : Program}
theorem run_slice_lit (W : World) (t e : TypeId) (K : Nat) (hu : P.underlying t = some (.slice e)) (hK : (P.info? e).map (·.size) = some K) (a : Option Addr) (L c : Nat) (lo hi : Option Value) (l h : Nat)
    (hb : (Instr.sliceBounds true L c lo hi none).run P W = .ok (l, h, c) W) : (Instr.sliceAt t (.slice a L c) lo hi none).run P W = .ok (.slice (if c = l then a else a.map (·.add (l * K))) (h - l) (c - l)) W := by
  obtain ⟨i, hi0, hi1⟩ := Option.map_eq_some_iff.1 hK
  have he : P.elem t = e := by simp [Program.elem, hu]
  rw [run_sliceAt_slice _ t _ _ _ _ (by rw [he]; exact hu)]
  simp [Instr.slice, run_underlying hu, hb, sizeOf, typeInfo, hi0, hi1]
theorem slice_take {α : Type} {enc : α → List Value} (t e : TypeId) (K : Nat) (hu : P.underlying t = some (.slice e)) (hK : (P.info? e).map (·.size) = some K) {v : Value} {l : List α} {k : Nat} (hk : k ≤ l.length) {W0 : World} (h0 : Sl W0 K enc v l) :
    ∃ s, (∀ W, (Instr.sliceAt t v none (some (.int .i64 k)) none).run P W = .ok s W) ∧ (∀ W, Sl W K enc v l → Sl W K enc s (l.take k)) ∧ ∃ p c, s = .slice p k c := by
  obtain ⟨a, c, rfl, hc⟩ : ∃ a c, v = .slice a l.length c ∧ l.length ≤ c := by
    rcases h0 with ⟨rfl, rfl⟩ | ⟨a, c, rfl, h1, -⟩
    · exact ⟨none, 0, rfl, Nat.le_refl _⟩
    · exact ⟨some a, c, rfl, h1⟩
  refine ⟨.slice a k c, fun W => ?_, fun W h => ?_, a, c, rfl⟩
  · have hb : (Instr.sliceBounds true l.length c none (some (.int .i64 (k : Int))) none).run P W = .ok (0, k, c) W := by
      have h9 : (k : Int) ≤ (c : Int) := by omega
      simp [Instr.sliceBounds, run_sliceBound _ _ _ _ _ (show (0 : Int) ≤ (k : Int) by omega) h9]
    rw [run_slice_lit W t e K hu hK a _ c _ _ 0 k hb]
    have : a.map (fun x => x.add 0) = a := by
      cases a with
      | none => rfl
      | some x => rw [Option.map_some]; unfold Addr.add; rw [if_pos rfl]
    split <;> simp [this]
  · have hlk : (l.take k).length = k := by simp; omega
    rcases h with ⟨h, rfl⟩ | ⟨a', cap, h, h1, h2, h3, h4⟩
    · cases h
      simp at hk
      subst hk
      exact .inl ⟨rfl, rfl⟩
    · simp only [Value.slice.injEq] at h
      obtain ⟨rfl, -, rfl⟩ := h
      refine .inr ⟨a', c, by rw [hlk], by rw [hlk]; omega, h2, fun hne => h3 (by rintro rfl; simp at hne), fun i x hx => h4 i x ?_⟩
      rw [List.getElem?_take] at hx
      split at hx
      · exact hx
      · cases hx
theorem slice_drop {α : Type} {enc : α → List Value} (t e : TypeId) (K : Nat) (hu : P.underlying t = some (.slice e)) (hK : (P.info? e).map (·.size) = some K) {v : Value} {l : List α} {k : Nat} (hk : k ≤ l.length) {W0 : World} (h0 : Sl W0 K enc v l) :
    ∃ s, (∀ W, (Instr.sliceAt t v (some (.int .i64 k)) none none).run P W = .ok s W) ∧ (∀ W, Sl W K enc v l → Sl W K enc s (l.drop k)) ∧ ∃ p c, s = .slice p (l.length - k) c := by
  obtain ⟨a, c, rfl, hc⟩ : ∃ a c, v = .slice a l.length c ∧ l.length ≤ c := by
    rcases h0 with ⟨rfl, rfl⟩ | ⟨a, c, rfl, h1, -⟩
    · exact ⟨none, 0, rfl, Nat.le_refl _⟩
    · exact ⟨some a, c, rfl, h1⟩
  refine ⟨.slice (if c = k then a else a.map (·.add (k * K))) (l.length - k) (c - k), fun W => ?_, fun W h => ?_, _, _, rfl⟩
  · refine run_slice_lit W t e K hu hK a _ c _ _ k l.length ?_
    have h9 : (k : Int) ≤ (l.length : Int) := by omega
    simp [Instr.sliceBounds, run_sliceBound _ _ _ _ _ (show (0 : Int) ≤ (k : Int) by omega) h9]
  · have hlk : (l.drop k).length = l.length - k := by simp
    rcases h with ⟨h, rfl⟩ | ⟨a', cap, h, h1, h2, h3, h4⟩
    · cases h
      simp at hk
      subst hk
      exact .inl ⟨rfl, rfl⟩
    · simp only [Value.slice.injEq] at h
      obtain ⟨rfl, -, rfl⟩ := h
      by_cases e1 : c = k
      · rw [if_pos e1]
        have hd : l.drop k = [] := List.drop_eq_nil_of_le (by omega)
        rw [hd]
        exact .inr ⟨a', c - k, by rw [show l.length - k = 0 by omega]; rfl, by simp, by omega, fun h => absurd rfl h, fun i x hx => by simp at hx⟩
      · rw [if_neg e1]
        by_cases e2 : k = 0
        · subst e2
          rw [Nat.zero_mul]
          simp only [Option.map_some, Addr.add, if_true, List.drop_zero, Nat.sub_zero]
          exact .inr ⟨a', c, rfl, h1, h2, h3, h4⟩
        · refine .inr ⟨a'.add (k * K), c - k, by rw [hlk]; rfl, by rw [hlk]; omega, by omega, fun hne => ?_, fun i x hx => ?_⟩
          · have h5 := h3 (by rintro rfl; simp at hne)
            unfold Addr.add
            split
            · exact h5
            · rfl
          · rw [List.getElem?_drop] at hx
            have h5 := h4 _ _ hx
            have h6 : (a'.add (k * K)).block = a'.block ∧ (a'.add (k * K)).off = a'.off + k * K := by
              unfold Addr.add
              split
              · rename_i h7; exact ⟨rfl, by omega⟩
              · exact ⟨rfl, rfl⟩
            rw [h6.1, h6.2]
            rwa [show a'.off + k * K + i * K = a'.off + (k + i) * K by rw [Nat.add_mul]; omega]
theorem yieldsIf_slice {ops : Array Oper} {S : World → Prop} {op : Oper} {a : Act} (hw : Region.wanted op (yielded ops a.tmps) = true) (t : TypeId) (x : Operand) (lo hi : Option Operand) (ho : op.op = .slice t x lo hi none) (v : Value)
    (h : ∀ w, (Instr.sliceAt t (a.eval x) (lo.map a.eval) (hi.map a.eval) none).run P w = .ok v w) : YieldsIf P ops S op v a :=
  .inl ⟨hw, fun w _ => by
    unfold execOp
    simp only [ho, Sem.run_bind, Option.map_none, h w, Result.andThen_ok]; rfl⟩
end

theorem posL_lt {l : List Ent} {key : List UInt8} {t : Nat} (h : t < posL l key) : lessS (keyAt l t) key = true := by
  have h1 := posL_le l key
  have h2 := List.not_of_lt_findIdx (xs := l) (p := fun e => !lessS e.key key) h
  rw [keyAt_of (List.getElem?_eq_getElem (by omega))]
  simpa using h2
theorem posL_ge {l : List Ent} {key : List UInt8} (h : posL l key < l.length) : lessS (keyAt l (posL l key)) key = false := by
  have h' : List.findIdx (fun e : Ent => !lessS e.key key) l < l.length := h
  have h2 : (!lessS (l[posL l key]'h).key key) = true := List.findIdx_getElem (xs := l) (p := fun e => !lessS e.key key) (w := h')
  rw [keyAt_of (List.getElem?_eq_getElem h)]
  simpa using h2
theorem keyAt_eq {l m : List Ent} {i j : Nat} (h : l[i]? = m[j]?) : keyAt l i = keyAt m j := by unfold keyAt; rw [h]
theorem ins_len (l : List Ent) (x : Ent) : (insS l x).length = l.length + 1 := by
  have := posL_le l x.key
  unfold insS; simp; omega
theorem ins_get (l : List Ent) (x : Ent) (i : Nat) : (insS l x)[i]? = if i < posL l x.key then l[i]? else if i = posL l x.key then some x else l[i - 1]? := by
  have hp := posL_le l x.key
  unfold insS
  by_cases h1 : i < posL l x.key
  · rw [if_pos h1, List.append_assoc, List.getElem?_append_left (by simp; omega), List.getElem?_take_of_lt h1]
  · rw [if_neg h1]
    by_cases h2 : i = posL l x.key
    · rw [if_pos h2, List.append_assoc, List.getElem?_append_right (by simp; omega), List.length_take, Nat.min_eq_left hp, h2, Nat.sub_self]; rfl
    · rw [if_neg h2, List.getElem?_append_right (by simp; omega), List.getElem?_drop, List.length_append, List.length_take, Nat.min_eq_left hp, List.length_singleton]
      congr 1; omega
theorem ins_take (l : List Ent) (x : Ent) : (insS l x).take (posL l x.key) = l.take (posL l x.key) := by
  unfold insS
  rw [List.append_assoc]
  exact List.take_left' (by rw [List.length_take, Nat.min_eq_left (posL_le l x.key)])
theorem ins_drop (l : List Ent) (x : Ent) : (insS l x).drop (posL l x.key + 1) = l.drop (posL l x.key) := by
  unfold insS
  exact List.drop_left' (by rw [List.length_append, List.length_take, Nat.min_eq_left (posL_le l x.key)]; rfl)
theorem ins_key {l : List Ent} {x : Ent} (hl : ∀ e ∈ l, e.key.length = 32) (hx : x.key.length = 32) : ∀ e ∈ insS l x, e.key.length = 32 := fun e he => by
  unfold insS at he
  rcases List.mem_append.1 he with he | he
  · rcases List.mem_append.1 he with he | he
    · exact hl e (List.mem_of_mem_take he)
    · obtain rfl := List.mem_singleton.1 he; exact hx
  · exact hl e (List.mem_of_mem_drop he)
theorem ins_rises {l : List Ent} {x : Ent} (hr : risesL l = true) (hf : foundL l x.key = false) : risesL (insS l x) = true := by
  refine rises_all fun i hi => ?_
  rw [ins_len] at hi
  have hp := posL_le l x.key
  obtain ⟨k, hk⟩ : ∃ k, posL l x.key = k := ⟨_, rfl⟩
  have hg := ins_get l x
  rw [hk] at hg hp
  have hlt : ∀ t, t < k → lessS (keyAt l t) x.key = true := fun t ht => posL_lt (by rw [hk]; exact ht)
  by_cases h1 : i + 1 < k
  · rw [keyAt_eq (m := l) (j := i) (by rw [hg, if_pos (by omega)]), keyAt_eq (l := insS l x) (m := l) (j := i + 1) (by rw [hg, if_pos h1])]
    exact rises_step hr (by omega)
  · by_cases h2 : i + 1 = k
    · rw [keyAt_eq (m := l) (j := i) (by rw [hg, if_pos (by omega)]), keyAt_of (l := insS l x) (i := i + 1) (by rw [hg, if_neg (by omega), if_pos h2])]
      exact hlt i (by omega)
    · by_cases h3 : i = k
      · subst h3
        have hil : i < l.length := by omega
        rw [keyAt_of (l := insS l x) (i := i) (by rw [hg, if_neg (by omega), if_pos rfl]), keyAt_eq (l := insS l x) (m := l) (j := i) (by rw [hg, if_neg (by omega), if_neg (by omega), Nat.add_sub_cancel])]
        have h4 : lessS (keyAt l i) x.key = false := by have := posL_ge (l := l) (key := x.key) (by rw [hk]; exact hil); rwa [hk] at this
        cases h5 : lessS x.key (keyAt l i) with
        | true => rfl
        | false =>
          have h6 := lessS_total h4 h5
          rw [foundL_is, hk, decide_eq_true hil, decide_eq_true h6] at hf
          cases hf
      · rw [keyAt_eq (l := insS l x) (m := l) (i := i) (j := i - 1) (by rw [hg, if_neg (by omega), if_neg h3]), keyAt_eq (l := insS l x) (m := l) (i := i + 1) (j := i) (by rw [hg, if_neg (by omega), if_neg (by omega), Nat.add_sub_cancel])]
        have := rises_step hr (i := i - 1) (by omega)
        rwa [show i - 1 + 1 = i by omega] at this
theorem ins_pos (l : List Ent) (x : Ent) : posL (insS l x) x.key = posL l x.key := by
  have hp := posL_le l x.key
  refine posL_first (by rw [ins_len]; omega) (fun t ht => ?_) (fun _ => ?_)
  · rw [keyAt_eq (m := l) (j := t) (by rw [ins_get, if_pos ht])]
    exact posL_lt ht
  · rw [keyAt_of (l := insS l x) (by rw [ins_get, if_neg (by omega), if_pos rfl])]
    exact lessS_irrefl _
theorem ins_found (l : List Ent) (x : Ent) : foundL (insS l x) x.key = true := by
  have hp := posL_le l x.key
  rw [foundL_is, ins_pos, ins_len, decide_eq_true (by omega), keyAt_of (l := insS l x) (by rw [ins_get, if_neg (by omega), if_pos rfl]), decide_eq_true rfl]
  rfl
theorem rem_ins (l : List Ent) (x : Ent) : remS (insS l x) x.key = l := by
  unfold remS
  rw [ins_pos, ins_take, ins_drop, List.take_append_drop]
theorem rem_take (l : List Ent) (key : List UInt8) : (remS l key).take (posL l key) = l.take (posL l key) := by
  unfold remS
  exact List.take_left' (by rw [List.length_take, Nat.min_eq_left (posL_le l key)])
theorem rem_drop (l : List Ent) (key : List UInt8) : (remS l key).drop (posL l key) = l.drop (posL l key + 1) := by
  unfold remS
  exact List.drop_left' (by rw [List.length_take, Nat.min_eq_left (posL_le l key)])
theorem rem_len {l : List Ent} {key : List UInt8} (h : foundL l key = true) : (remS l key).length = l.length - 1 ∧ posL l key < l.length := by
  rw [foundL_is] at h
  simp only [Bool.and_eq_true, decide_eq_true_eq] at h
  refine ⟨?_, h.1⟩
  unfold remS
  have := h.1
  simp; omega
theorem rem_key {l : List Ent} {key : List UInt8} (hl : ∀ e ∈ l, e.key.length = 32) : ∀ e ∈ remS l key, e.key.length = 32 := fun e he => by
  unfold remS at he
  rcases List.mem_append.1 he with he | he
  · exact hl e (List.mem_of_mem_take he)
  · exact hl e (List.mem_of_mem_drop he)
end Go.Proofs.Ytomgjapjeckokaa
namespace Go.Proofs.Ytomgjapjeckokaa
open Go.RowKit Go.Shelf Go.Lib

theorem pw_ext : ∀ {a b : List Ent}, a.Pairwise (fun x y => lessS x.key y.key = true) → b.Pairwise (fun x y => lessS x.key y.key = true) → (∀ e, e ∈ a ↔ e ∈ b) → a = b
  | [], [], _, _, _ => rfl
  | [], y :: b, _, _, h => by have := (h y).2 (List.mem_cons_self ..); cases this
  | x :: a, [], _, _, h => by have := (h x).1 (List.mem_cons_self ..); cases this
  | x :: a, y :: b, ha, hb, h => by
    obtain ⟨ha1, ha2⟩ := List.pairwise_cons.1 ha
    obtain ⟨hb1, hb2⟩ := List.pairwise_cons.1 hb
    have hxy : x = y := by
      rcases List.mem_cons.1 ((h x).1 (List.mem_cons_self ..)) with h1 | h1
      · exact h1
      · rcases List.mem_cons.1 ((h y).2 (List.mem_cons_self ..)) with h2 | h2
        · exact h2.symm
        · have h3 := hb1 x h1
          have h4 := ha1 y h2
          rw [lessS_asymm h3] at h4; cases h4
    subst hxy
    congr 1
    refine pw_ext ha2 hb2 fun e => ⟨fun he => ?_, fun he => ?_⟩
    · rcases List.mem_cons.1 ((h e).1 (List.mem_cons_of_mem _ he)) with rfl | h1
      · have h2 := ha1 e he
        rw [lessS_irrefl] at h2; cases h2
      · exact h1
    · rcases List.mem_cons.1 ((h e).2 (List.mem_cons_of_mem _ he)) with rfl | h1
      · have h2 := hb1 e he
        rw [lessS_irrefl] at h2; cases h2
      · exact h1
theorem rises_pw {l : List Ent} (h : risesL l = true) : l.Pairwise (fun x y => lessS x.key y.key = true) := by
  rw [List.pairwise_iff_getElem]
  intro i j hi hj hij
  have h9 := rises_lt h (a := i) (j - i - 1) (by omega)
  rw [show i + (j - i - 1) + 1 = j by omega, keyAt_of (List.getElem?_eq_getElem hi), keyAt_of (List.getElem?_eq_getElem hj)] at h9
  exact h9
theorem rises_ext {a b : List Ent} (ha : risesL a = true) (hb : risesL b = true) (h : ∀ e, e ∈ a ↔ e ∈ b) : a = b := pw_ext (rises_pw ha) (rises_pw hb) h
theorem ins_mem (l : List Ent) (x e : Ent) : e ∈ insS l x ↔ e = x ∨ e ∈ l := by
  unfold insS
  constructor
  · intro h
    rcases List.mem_append.1 h with h | h
    · rcases List.mem_append.1 h with h | h
      · exact .inr (List.mem_of_mem_take h)
      · exact .inl (List.mem_singleton.1 h)
    · exact .inr (List.mem_of_mem_drop h)
  · rintro (rfl | h)
    · exact List.mem_append_left _ (List.mem_append_right _ (List.mem_singleton.2 rfl))
    · rw [← List.take_append_drop (posL l x.key) l] at h
      rcases List.mem_append.1 h with h | h
      · exact List.mem_append_left _ (List.mem_append_left _ h)
      · exact List.mem_append_right _ h
theorem found_iff {l : List Ent} (h : risesL l = true) (key : List UInt8) : foundL l key = true ↔ ∃ e ∈ l, e.key = key := by
  rw [foundL_is, Bool.and_eq_true, decide_eq_true_eq, decide_eq_true_eq]
  constructor
  · rintro ⟨h1, h2⟩
    refine ⟨l[posL l key], List.getElem_mem _, ?_⟩
    rw [keyAt_of (List.getElem?_eq_getElem h1)] at h2
    exact h2
  · rintro ⟨e, he, hek⟩
    obtain ⟨t, ht, hte⟩ := List.getElem_of_mem he
    have hkt : keyAt l t = key := by rw [keyAt_of (List.getElem?_eq_getElem ht), hte, hek]
    have h1 : ¬ t < posL l key := fun h9 => by
      have := posL_lt h9
      rw [hkt, lessS_irrefl] at this; cases this
    have h2 : posL l key < l.length := by omega
    have h3 := posL_ge h2
    by_cases e9 : posL l key = t
    · exact ⟨h2, by rw [e9]; exact hkt⟩
    · have h4 := rises_lt h (a := posL l key) (t - posL l key - 1) (by omega)
      rw [show posL l key + (t - posL l key - 1) + 1 = t by omega, hkt, h3] at h4
      cases h4
/-- the first entry of l under x's key, else x -/
def sameS (l : List Ent) (x : Ent) : Ent := (l.find? fun e => decide (e.key = x.key)).getD x
theorem same_key (l : List Ent) (x : Ent) : (sameS l x).key = x.key := by
  unfold sameS
  cases h : l.find? fun e => decide (e.key = x.key) with
  | none => rfl
  | some e => simpa using List.find?_some h
theorem same_congr {l : List Ent} {x y : Ent} (hx : x ∈ l) (h : x.key = y.key) : sameS l x = sameS l y := by
  unfold sameS
  rw [h]
  cases h9 : l.find? fun e => decide (e.key = y.key) with
  | none =>
    have := List.find?_eq_none.1 h9 x hx
    simp [h] at this
  | some e => rfl
/-- one entry put in, where its key is not there -/
def putS (l : List Ent) (x : Ent) : List Ent := if foundL l x.key then l else insS l x
theorem put_rises {l : List Ent} {x : Ent} (h : risesL l = true) : risesL (putS l x) = true := by
  unfold putS
  split
  · exact h
  · rename_i h9
    exact ins_rises h (by simpa using h9)
/-- the entries that xs puts in -/
def putAll (l : List Ent) (xs : List Ent) : List Ent := xs.foldl (fun acc x => putS acc (sameS l x)) []
theorem putAll_spec {l : List Ent} : ∀ (xs acc done : List Ent), (∀ x ∈ xs, x ∈ l) → (∀ x ∈ done, x ∈ l) → risesL acc = true → (∀ e, e ∈ acc ↔ ∃ y ∈ done, e = sameS l y) →
    risesL (xs.foldl (fun acc x => putS acc (sameS l x)) acc) = true ∧ ∀ e, e ∈ xs.foldl (fun acc x => putS acc (sameS l x)) acc ↔ ∃ y ∈ done ++ xs, e = sameS l y
  | [], acc, done, _, _, hr, hm => ⟨hr, fun e => by rw [List.append_nil]; exact hm e⟩
  | x :: xs, acc, done, hx, hd, hr, hm => by
    have hxl := hx x (List.mem_cons_self ..)
    have ih := putAll_spec xs (putS acc (sameS l x)) (done ++ [x]) (fun y hy => hx y (List.mem_cons_of_mem _ hy)) (fun y hy => by
      rcases List.mem_append.1 hy with h | h
      · exact hd y h
      · obtain rfl := List.mem_singleton.1 h; exact hxl) (put_rises hr) (fun e => by
      unfold putS
      split
      · rename_i hf
        obtain ⟨e0, he0, hk0⟩ := (found_iff hr _).1 hf
        constructor
        · intro he
          obtain ⟨y, hy, h9⟩ := (hm e).1 he
          exact ⟨y, List.mem_append_left _ hy, h9⟩
        · rintro ⟨y, hy, rfl⟩
          rcases List.mem_append.1 hy with h | h
          · exact (hm _).2 ⟨y, h, rfl⟩
          · obtain rfl := List.mem_singleton.1 h
            obtain ⟨y0, hy0, h9⟩ := (hm e0).1 he0
            refine (hm _).2 ⟨y0, hy0, ?_⟩
            refine same_congr hxl ?_
            rw [h9, same_key, same_key] at hk0
            exact hk0.symm
      · rw [ins_mem]
        constructor
        · rintro (rfl | he)
          · exact ⟨x, List.mem_append_right _ (List.mem_singleton.2 rfl), rfl⟩
          · obtain ⟨y, hy, h9⟩ := (hm e).1 he
            exact ⟨y, List.mem_append_left _ hy, h9⟩
        · rintro ⟨y, hy, rfl⟩
          rcases List.mem_append.1 hy with h | h
          · exact .inr ((hm _).2 ⟨y, h, rfl⟩)
          · obtain rfl := List.mem_singleton.1 h
            exact .inl rfl)
    rw [List.foldl_cons]
    refine ⟨ih.1, fun e => (ih.2 e).trans ?_⟩
    rw [List.append_assoc]; rfl
theorem rises_none : risesL [] = true := rfl
theorem putAll_eq {l xs ys : List Ent} (hx : ∀ x ∈ xs, x ∈ l) (h : ∀ e, e ∈ xs ↔ e ∈ ys) : putAll l xs = putAll l ys := by
  have a := putAll_spec xs [] [] hx (fun _ h => by cases h) rises_none (fun e => by simp)
  have b := putAll_spec ys [] [] (fun y hy => hx y ((h y).2 hy)) (fun _ h => by cases h) rises_none (fun e => by simp)
  refine rises_ext a.1 b.1 fun e => (a.2 e).trans (Iff.trans ?_ (b.2 e).symm)
  simp only [List.nil_append]
  exact ⟨fun ⟨y, hy, h9⟩ => ⟨y, (h y).1 hy, h9⟩, fun ⟨y, hy, h9⟩ => ⟨y, (h y).2 hy, h9⟩⟩
theorem putAll_rises {l xs : List Ent} (hx : ∀ x ∈ xs, x ∈ l) : risesL (putAll l xs) = true := (putAll_spec xs [] [] hx (fun _ h => by cases h) rises_none (fun e => by simp)).1
theorem putAll_found {l xs : List Ent} (hx : ∀ x ∈ xs, x ∈ l) {x : Ent} (h : x ∈ xs) : foundL (putAll l xs) x.key = true := by
  have a := putAll_spec xs [] [] hx (fun _ h => by cases h) rises_none (fun e => by simp)
  refine (found_iff a.1 _).2 ⟨sameS l x, (a.2 _).2 ⟨x, by simpa using h, rfl⟩, same_key l x⟩
theorem put_len (l : List Ent) (x : Ent) : (putS l x).length ≤ l.length + 1 := by
  unfold putS
  split
  · omega
  · rw [ins_len]; omega
theorem putAll_len' {l : List Ent} : ∀ (xs acc : List Ent), (xs.foldl (fun acc x => putS acc (sameS l x)) acc).length ≤ acc.length + xs.length
  | [], acc => by simp
  | x :: xs, acc => by
    have h1 := putAll_len' (l := l) xs (putS acc (sameS l x))
    have h2 := put_len acc (sameS l x)
    rw [List.foldl_cons, List.length_cons]
    omega
theorem putAll_len (l xs : List Ent) : (putAll l xs).length ≤ xs.length := by
  have := putAll_len' (l := l) xs []
  unfold putAll
  simpa using this
theorem same_mem {l : List Ent} {x : Ent} (h : x ∈ l) : sameS l x ∈ l := by
  unfold sameS
  cases h9 : l.find? fun e => decide (e.key = x.key) with
  | none => exact h
  | some e => exact List.mem_of_find?_eq_some h9
theorem putAll_take {l xs : List Ent} {k : Nat} {x : Ent} (h : xs[k]? = some x) : putAll l (xs.take (k + 1)) = putS (putAll l (xs.take k)) (sameS l x) := by
  obtain ⟨hk, rfl⟩ := List.getElem?_eq_some_iff.1 h
  unfold putAll
  rw [List.take_succ_eq_append_getElem hk, List.foldl_append]; rfl
end Go.Proofs.Ytomgjapjeckokaa
namespace Go.Proofs.Ytomgjapjeckokaa
open Go.RowKit Go.Shelf Go.Lib

theorem same_at {l : List Ent} {x e : Ent} {k : Nat} (hk : l[k]? = some e) (h : ∀ t, t < k → keyAt l t ≠ x.key) (he : e.key = x.key) : sameS l x = e := by
  unfold sameS
  obtain ⟨hl, rfl⟩ := List.getElem?_eq_some_iff.1 hk
  have h9 : l.find? (fun e => decide (e.key = x.key)) = some l[k] := by
    rw [List.find?_eq_some_iff_getElem]
    refine ⟨by simpa using he, k, hl, rfl, fun j hj => ?_⟩
    have h8 := h j hj
    rw [keyAt_of (List.getElem?_eq_getElem (by omega))] at h8
    simpa using h8
  rw [h9]; rfl
theorem same_no {l : List Ent} {x : Ent} (h : ∀ t, t < l.length → keyAt l t ≠ x.key) : sameS l x = x := by
  unfold sameS
  have h9 : l.find? (fun e => decide (e.key = x.key)) = none := by
    rw [List.find?_eq_none]
    intro e he
    obtain ⟨t, ht, rfl⟩ := List.getElem_of_mem he
    have h8 := h t ht
    rw [keyAt_of (List.getElem?_eq_getElem ht)] at h8
    simpa using h8
  rw [h9]; rfl

set_option maxRecDepth 100000 in
set_option maxHeartbeats 4000000 in
theorem same_any (l : List Ent) (x : Ent) (v : Value) (w : World) (hs : Sl w 35 encE v l) (hk : ∀ e ∈ l, e.key.length = 32) (hkx : x.key.length = 32) :
    Calls Try.prog 26 #[v, .agg (rowE x)] w fun e w' => e = .returned (.agg (rowE (sameS l x))) ∧ Below w.heap.size w w' := by
  obtain ⟨n₀, hn₀⟩ : ∃ n, w.heap.size = n := ⟨_, rfl⟩
  obtain ⟨p, cp, rfl, hlc⟩ := hs.shape
  unfold maxLen at hlc
  have hsB : ∀ W, Below n₀ w W → Sl W 35 encE (.slice p l.length cp) l := fun W hB => (Kept.of_below (hn₀ ▸ hB : Below w.heap.size w W) 0).sl hs
  have g0 := World.alloc_heap_new w (.cells (rowE x) 48)
  rw [hn₀] at g0
  have B0 : Below n₀ w (w.alloc (.cells (rowE x) 48)) := by rw [← hn₀]; exact (Below.refl _ w).alloc (Nat.le_refl _) _
  have hz0 : (w.alloc (.cells (rowE x) 48)).heap.size = n₀ + 1 := by rw [← hn₀]; exact Array.size_push ..
  have g1 := World.alloc_heap_new (w.alloc (.cells (rowE x) 48)) (.cells #[.int .u8 0, .int .u8 0, .int .u8 0, .int .u8 0, .int .u8 0, .int .u8 0, .int .u8 0, .int .u8 0, .int .u8 0, .int .u8 0, .int .u8 0, .int .u8 0, .int .u8 0, .int .u8 0, .int .u8 0, .int .u8 0, .int .u8 0, .int .u8 0, .int .u8 0, .int .u8 0, .int .u8 0, .int .u8 0, .int .u8 0, .int .u8 0, .int .u8 0, .int .u8 0, .int .u8 0, .int .u8 0, .int .u8 0, .int .u8 0, .int .u8 0, .int .u8 0, .int .i64 0, .int .i64 0, .int .i64 0] 48)
  rw [hz0] at g1
  have g0' := (Kept.alloc 0 (w.alloc (.cells (rowE x) 48)) (.cells #[.int .u8 0, .int .u8 0, .int .u8 0, .int .u8 0, .int .u8 0, .int .u8 0, .int .u8 0, .int .u8 0, .int .u8 0, .int .u8 0, .int .u8 0, .int .u8 0, .int .u8 0, .int .u8 0, .int .u8 0, .int .u8 0, .int .u8 0, .int .u8 0, .int .u8 0, .int .u8 0, .int .u8 0, .int .u8 0, .int .u8 0, .int .u8 0, .int .u8 0, .int .u8 0, .int .u8 0, .int .u8 0, .int .u8 0, .int .u8 0, .int .u8 0, .int .u8 0, .int .i64 0, .int .i64 0, .int .i64 0] 48)).same _ _ g0 (.inl rfl)
  have B1 := B0.alloc (by omega) (.cells #[.int .u8 0, .int .u8 0, .int .u8 0, .int .u8 0, .int .u8 0, .int .u8 0, .int .u8 0, .int .u8 0, .int .u8 0, .int .u8 0, .int .u8 0, .int .u8 0, .int .u8 0, .int .u8 0, .int .u8 0, .int .u8 0, .int .u8 0, .int .u8 0, .int .u8 0, .int .u8 0, .int .u8 0, .int .u8 0, .int .u8 0, .int .u8 0, .int .u8 0, .int .u8 0, .int .u8 0, .int .u8 0, .int .u8 0, .int .u8 0, .int .u8 0, .int .u8 0, .int .i64 0, .int .i64 0, .int .i64 0] 48)
  obtain ⟨W1, hW1⟩ : ∃ W : World, W = (w.alloc (.cells (rowE x) 48)).alloc (.cells #[.int .u8 0, .int .u8 0, .int .u8 0, .int .u8 0, .int .u8 0, .int .u8 0, .int .u8 0, .int .u8 0, .int .u8 0, .int .u8 0, .int .u8 0, .int .u8 0, .int .u8 0, .int .u8 0, .int .u8 0, .int .u8 0, .int .u8 0, .int .u8 0, .int .u8 0, .int .u8 0, .int .u8 0, .int .u8 0, .int .u8 0, .int .u8 0, .int .u8 0, .int .u8 0, .int .u8 0, .int .u8 0, .int .u8 0, .int .u8 0, .int .u8 0, .int .u8 0, .int .i64 0, .int .i64 0, .int .i64 0] 48) := ⟨_, rfl⟩
  rw [← hW1] at g1 g0' B1
  clear B0 g0
  have hik : (Try.prog.info? 46).map (·.size) = some (keyV x.key).length := by rw [keyV_len, hkx]; kernel_rfl
  have hix : (Try.prog.info? 48).map (·.size) = some (encE x).length := by rw [encE_len, hkx]; kernel_rfl
  have hi7x : (Try.prog.info? 48).map (·.size) = some (rowE x).size := by rw [rowE_size hkx]; kernel_rfl
  obtain ⟨L, hL⟩ : ∃ x, l.length = x := ⟨_, rfl⟩
  rw [hL] at hsB hlc ⊢
  rw [hn₀]
  replace hL := hid hL
  replace hsB := hid hsB
  clear hs
  go_enter Try.func26, Try.ntmps26
  go_upto_region 1 with (fail)
  rw [← hW1]
  clear hW1
  go_wp2_with (fail)
  go_loopw [5] (fun iv wr => ∃ k : Nat, k ≤ L ∧ iv = .int .i64 k ∧ (∀ t, t < k → keyAt l t ≠ x.key) ∧ wr.heap[n₀]? = some (.cells (rowE x) 48 (0, 0)) ∧ wr.heap[n₀ + 1]? = some (.cells #[.int .u8 0, .int .u8 0, .int .u8 0, .int .u8 0, .int .u8 0, .int .u8 0, .int .u8 0, .int .u8 0, .int .u8 0, .int .u8 0, .int .u8 0, .int .u8 0, .int .u8 0, .int .u8 0, .int .u8 0, .int .u8 0, .int .u8 0, .int .u8 0, .int .u8 0, .int .u8 0, .int .u8 0, .int .u8 0, .int .u8 0, .int .u8 0, .int .u8 0, .int .u8 0, .int .u8 0, .int .u8 0, .int .u8 0, .int .u8 0, .int .u8 0, .int .u8 0, .int .i64 0, .int .i64 0, .int .i64 0] 48 (0, 0)) ∧ Below n₀ w wr) (fun iv _ => L - (RowKit.intOf iv).toNat)
  case atStart => exact ⟨0, Nat.zero_le _, rfl, fun t ht => absurd ht (Nat.not_lt_zero _), g0', g1, B1⟩
  case round =>
    obtain ⟨k, hkL, rfl, hacc, q0, q1, qB⟩ := hrel
    clear B1 g0' g1 hz0
    by_cases hlt : k < L
    · have hkI : (k : Int) < (L : Int) := by omega
      obtain ⟨y, hy⟩ : ∃ e, l[k]? = some e := ⟨_, List.getElem?_eq_getElem (by rw [hL.out]; omega)⟩
      have hky := hk y (List.mem_of_getElem? hy)
      have qB2 : Below n₀ w wr.drew := qB.drewN 1
      obtain ⟨b, o, c, he, -, -, hc⟩ := (hsB.out _ qB2).open (by rintro rfl; simp at hy)
      obtain ⟨rfl, -, rfl⟩ := Value.slice.inj he
      clear he
      have hrE := hc k y hy
      have hra := range_key hrE
      have hka2 : keyAt l k = y.key := keyAt_of hy
      have hia : (Try.prog.info? 46).map (·.size) = some (keyV y.key).length := by rw [keyV_len, hky]; kernel_rfl
      have hiy : (Try.prog.info? 48).map (·.size) = some (encE y).length := by rw [encE_len, hky]; kernel_rfl
      have hi7y : (Try.prog.info? 48).map (·.size) = some (rowE y).size := by rw [rowE_size hky]; kernel_rfl
      obtain ⟨ka, hkae⟩ : ∃ k, y.key = k := ⟨_, rfl⟩
      rw [hkae] at hia hra hka2
      obtain ⟨d2, hd2⟩ : ∃ d, decide (ka = x.key) = d := ⟨_, rfl⟩
      have hq : ∀ W, (binOp .eql 46 (.agg (keyV ka).toArray) (.agg (keyV x.key).toArray)).run Try.prog W = .ok (.bool d2) W := fun W => by
        have h := run_eql_u8s (P := Try.prog) W (t := 46) (e := 5) (n := 32) Try.underlying46 Try.underlying5 (by kernel_rfl) (intsU ka) (intsU x.key) (by unfold intsU; rw [List.length_map, ← hkae, hky]) (by unfold intsU; rw [List.length_map, hkx])
        rw [← rowU_u8s, ← rowU_u8s] at h
        rw [show decide (intsU ka = intsU x.key) = d2 by rw [← hd2]; exact decide_eq_decide.2 ⟨intsU_inj, fun h => by rw [h]⟩] at h
        exact h
      have q02 : wr.drew.heap[n₀]? = some (.cells (rowE x) 48 (0, 0)) := q0
      have q12 : wr.drew.heap[n₀ + 1]? = some (.cells #[.int .u8 0, .int .u8 0, .int .u8 0, .int .u8 0, .int .u8 0, .int .u8 0, .int .u8 0, .int .u8 0, .int .u8 0, .int .u8 0, .int .u8 0, .int .u8 0, .int .u8 0, .int .u8 0, .int .u8 0, .int .u8 0, .int .u8 0, .int .u8 0, .int .u8 0, .int .u8 0, .int .u8 0, .int .u8 0, .int .u8 0, .int .u8 0, .int .u8 0, .int .u8 0, .int .u8 0, .int .u8 0, .int .u8 0, .int .u8 0, .int .u8 0, .int .u8 0, .int .i64 0, .int .i64 0, .int .i64 0] 48 (0, 0)) := q1
      have hst : (fun W => W.rangeAt b (o + k * 35) (keyV ka) ∧ W.rangeAt n₀ 0 (keyV x.key)) wr.drew := ⟨hra, range_key (range_blk (cs := encE x) q02)⟩
      clear hc hra qB q0 q1
      replace hacc := hid hacc
      replace hka2 := hid hka2
      replace hkae := hid hkae
      replace hy := hid hy
      go_upto_region 4 with (fail)
      refine wp_region_held_drew (S := (fun W => W.rangeAt b (o + k * 35) (keyV ka) ∧ W.rangeAt n₀ 0 (keyV x.key))) (by kernel_rfl) hst (fun hHeld => ?_)
      generalize wr.drew = W5 at *
      refine wpAnyH_take (i := 0) (oi := ⟨some 12, _, _, _, _, _⟩) (v := ?_) rfl (by kernel_rfl) (by kernel_rfl) (by kernel_rfl) (fun _ _ _ h => h) (Or.inl ⟨by rfl, ?_⟩) (by assumption) ?_
      rotate_left
      · intro w hSw; (try dsimp only at hSw); go_simp <;> with_reducible rfl
      try simp only [Act.put, List.setIfInBounds_toArray, List.set_cons_zero, List.set_cons_succ]
      refine wpAnyH_take (i := 1) (oi := ⟨some 13, _, _, _, _, _⟩) (v := ?_) rfl (by kernel_rfl) (by kernel_rfl) (by kernel_rfl) (fun _ _ _ h => h) (Or.inl ⟨by rfl, ?_⟩) (by assumption) ?_
      rotate_left
      · intro w hSw; (try dsimp only at hSw); go_simp <;> with_reducible rfl
      try simp only [Act.put, List.setIfInBounds_toArray, List.set_cons_zero, List.set_cons_succ]
      refine wpAnyH_take (i := 2) (oi := ⟨some 14, _, _, _, _, _⟩) (v := ?_) rfl (by kernel_rfl) (by kernel_rfl) (by kernel_rfl) (fun _ _ _ h => h) (Or.inl ⟨by rfl, ?_⟩) (by assumption) ?_
      rotate_left
      · intro w hSw; (try dsimp only at hSw); go_simp <;> with_reducible rfl
      try simp only [Act.put, List.setIfInBounds_toArray, List.set_cons_zero, List.set_cons_succ]
      refine wpAnyH_take (i := 3) (oi := ⟨some 15, _, _, _, _, _⟩) (v := ?_) rfl (by kernel_rfl) (by kernel_rfl) (by kernel_rfl) (fun _ _ _ h => h) (Or.inl ⟨by rfl, ?_⟩) (by assumption) ?_
      rotate_left
      · intro w hSw; (try dsimp only at hSw); go_simp <;> with_reducible rfl
      try simp only [Act.put, List.setIfInBounds_toArray, List.set_cons_zero, List.set_cons_succ]
      refine wpAnyH_take (i := 4) (oi := ⟨some 16, _, _, _, _, _⟩) rfl (by kernel_rfl) (by kernel_rfl) (by kernel_rfl) (fun _ _ _ h => h) (yieldsIf_load_mid (by rfl) 46 _ rfl b (o + k * 35) rfl (keyV ka) _ (fun w h => h.1) Try.underlying46 rfl hia) (by assumption) ?_
      try simp only [Act.put, List.setIfInBounds_toArray, List.set_cons_zero, List.set_cons_succ]
      refine wpAnyH_take (i := 5) (oi := ⟨some 17, _, _, _, _, _⟩) (v := ?_) rfl (by kernel_rfl) (by kernel_rfl) (by kernel_rfl) (fun _ _ _ h => h) (Or.inl ⟨by rfl, ?_⟩) (by assumption) ?_
      rotate_left
      · intro w hSw; (try dsimp only at hSw); go_simp <;> with_reducible rfl
      try simp only [Act.put, List.setIfInBounds_toArray, List.set_cons_zero, List.set_cons_succ]
      refine wpAnyH_take (i := 6) (oi := ⟨some 18, _, _, _, _, _⟩) rfl (by kernel_rfl) (by kernel_rfl) (by kernel_rfl) (fun _ _ _ h => h) (yieldsIf_load_mid (by rfl) 46 _ rfl n₀ 0 rfl (keyV x.key) _ (fun w h => h.2) Try.underlying46 rfl hik) (by assumption) ?_
      try simp only [Act.put, List.setIfInBounds_toArray, List.set_cons_zero, List.set_cons_succ]
      refine wpAnyH_take (i := 7) (oi := ⟨some 19, _, _, _, _, _⟩) (v := ?_) rfl (by kernel_rfl) (by kernel_rfl) (by kernel_rfl) (fun _ _ _ h => h) (Or.inl ⟨by rfl, ?_⟩) (by assumption) ?_
      rotate_left
      · intro w hSw; (try dsimp only at hSw); go_simp <;> with_reducible rfl
      try simp only [Act.put, List.setIfInBounds_toArray, List.set_cons_zero, List.set_cons_succ]
      refine wpAnyH_done (by kernel_rfl) ?_ _
      skip
      clear hHeld hst hq
      cases d2 with
      | true =>
        have hres : sameS l x = y := same_at hy.out hacc.out (by rw [hkae.out]; exact of_decide_eq_true hd2)
        have ht1 : W5.there (n₀ + 1) 0 (rowE y).size := there_blk q12 (by rw [rowE_size hky]; rfl)
        have q1 := q12
        have qB := qB2
        clear hd2
        go_wp2_with (first | refine wpList_load_mid rfl 48 _ rfl b (o + k * 35) rfl (encE y) _ hrE Try.underlying48 rfl hiy ?_ | refine wpList_store_mid rfl 48 _ _ rfl (n₀ + 1) 0 (rowE y) rfl rfl ht1 hi7y (one_rowE _) ?_)
        have u1 := (Upd.refl q1).setCells (rowE y).toList (by rw [Array.length_toList, rowE_size hky]; rfl)
        have u2 := u1.here
        rw [Array.toArray_toList] at u2
        have BZ := u1.below qB (by omega)
        exact outRow (ty := 48) rfl u2 rfl rfl (by kernel_rfl) (by rw [rowE_size hky]; kernel_rfl) ⟨by first | rfl | rw [hres], BZ⟩
      | false =>
        have hacc2 : ∀ t, t < k + 1 → keyAt l t ≠ x.key := fun t ht => by
          by_cases e : t = k
          · rw [e, hka2.out]; exact of_decide_eq_false hd2
          · exact hacc.out t (by omega)
        replace hacc2 := hid hacc2
        clear hrE
        go_wp2_with (fail)
        refine ⟨?_, ?_⟩
        · first | exact ⟨k + 1, by omega, by go_num, hacc2.out, q02, q12, qB2⟩ | ((repeat apply Exists.intro); refine ⟨?_, rfl⟩; exact ⟨k + 1, by omega, by go_num, hacc2.out, q02, q12, qB2⟩)
        · simp [RowKit.intOf]; omega
    · obtain rfl : k = L := by omega
      have hres : sameS l x = x := same_no (by rw [hL.out]; exact hacc)
      have hrE := range_blk (cs := encE x) q0
      have ht1 : wr.there (n₀ + 1) 0 (rowE x).size := there_blk q1 (by rw [rowE_size hkx]; rfl)
      clear hacc
      go_wp2_with (first | refine wpList_load_mid rfl 48 _ rfl n₀ 0 rfl (encE x) _ hrE Try.underlying48 rfl hix ?_ | refine wpList_store_mid rfl 48 _ _ rfl (n₀ + 1) 0 (rowE x) rfl rfl ht1 hi7x (one_rowE _) ?_)
      have u1 := (Upd.refl q1).setCells (rowE x).toList (by rw [Array.length_toList, rowE_size hkx]; rfl)
      have u2 := u1.here
      rw [Array.toArray_toList] at u2
      have BZ := u1.below qB (by omega)
      exact outRow (ty := 48) rfl u2 rfl rfl (by kernel_rfl) (by rw [rowE_size hkx]; kernel_rfl) ⟨by first | rfl | rw [hres], BZ⟩
end Go.Proofs.Ytomgjapjeckokaa
namespace Go.Proofs.Ytomgjapjeckokaa
open Go.RowKit Go.Shelf Go.Lib

theorem there_own {w : World} {base g L c : Nat} {e : TypeId} {xs : List Value} (h : w.ownsRow base e 35 (.slice (some ⟨g, 0, none⟩) L c) L xs) {i k : Nat} (hi : i < L) (hk : k < 35) : w.there g (i * 35 + k) 1 := by
  intro j hj
  obtain rfl : j = 0 := by omega
  refine ⟨?_, h.frozenAt _⟩
  rcases h.2 with ⟨h', _⟩ | ⟨g', cap', cur, h', hb, hg, hnc, hcm, hcs, htake⟩
  · simp at h'
  · simp only [Value.slice.injEq, Option.some.injEq, Addr.mk.injEq, and_true, true_and] at h'
    obtain ⟨rfl, rfl⟩ := h'
    have hlt : i * 35 + k < cur.size := by
      have h1 : (i + 1) * 35 ≤ c * 35 := Nat.mul_le_mul_right 35 (by omega)
      omega
    rw [cell_blk (i := i * 35 + k + 0) (v := cur[i * 35 + k]) hg (by simp [hlt])]
    rfl
/-- vs laid over xs from o on -/
def setL : List Value → Nat → List Value → List Value
  | xs, _, [] => xs
  | xs, o, v :: r => setL (xs.set o v) (o + 1) r
theorem own_setCells {e : TypeId} {base size g n cap : Nat} : ∀ (vs xs : List Value) (o : Nat) (w : World), w.ownsRow base e size (.slice (some ⟨g, 0, none⟩) n cap) n xs → (w.setCells g o vs).ownsRow base e size (.slice (some ⟨g, 0, none⟩) n cap) n (setL xs o vs)
  | [], _, _, _, h => h
  | v :: r, xs, o, w, h => own_setCells r (xs.set o v) (o + 1) _ (h.stored o v).1
theorem below_setCells {n₀ g : Nat} (hg : n₀ ≤ g) {w : World} : ∀ (vs : List Value) (o : Nat) (W : World), Below n₀ w W → Below n₀ w (W.setCells g o vs)
  | [], _, _, h => h
  | _ :: r, o, _, h => below_setCells hg r (o + 1) _ (below_set h hg)
theorem setL_skip (A : List Value) : ∀ (vs X : List Value) (o : Nat), setL (A ++ X) (A.length + o) vs = A ++ setL X o vs
  | [], _, _ => rfl
  | v :: r, X, o => by
    unfold setL
    rw [List.set_append_right _ _ (by omega), show A.length + o - A.length = o by omega, Nat.add_assoc]
    exact setL_skip A r (X.set o v) (o + 1)
theorem setL_here : ∀ (vs mid post : List Value), vs.length = mid.length → setL (mid ++ post) 0 vs = vs ++ post
  | [], mid, post, h => by
    obtain rfl := List.eq_nil_of_length_eq_zero h.symm; rfl
  | v :: r, [], post, h => by cases h
  | v :: r, m :: mid, post, h => by
    unfold setL
    have h9 := setL_skip [v] r (mid ++ post) 0
    simp only [List.cons_append, List.set_cons_zero, List.nil_append, List.length_singleton] at h9 ⊢
    rw [show 0 + 1 = 1 + 0 from rfl, h9, setL_here r mid post (by simpa using h)]
theorem flat_setE {e : Ent} (he : e.key.length = 32) : ∀ {l : List Ent} {i : Nat}, (∀ x ∈ l, x.key.length = 32) → i < l.length → setL (l.flatMap encE) (i * 35) (encE e) = (l.set i e).flatMap encE
  | [], _, _, h => absurd h (Nat.not_lt_zero _)
  | a :: t, 0, hk, _ => by
    have ha := hk a (List.mem_cons_self ..)
    rw [List.flatMap_cons, List.set_cons_zero, List.flatMap_cons, show 0 * 35 = 0 from rfl]
    exact setL_here _ _ _ (by rw [encE_len, encE_len, he, ha])
  | a :: t, i + 1, hk, h => by
    have ha := hk a (List.mem_cons_self ..)
    have hl : (encE a).length = 35 := by rw [encE_len, ha]
    rw [List.flatMap_cons, List.set_cons_succ, List.flatMap_cons, show (i + 1) * 35 = (encE a).length + i * 35 by omega, setL_skip]
    rw [flat_setE he (fun x hx => hk x (List.mem_cons_of_mem _ hx)) (by simpa using h)]
theorem there_row {w : World} {base g L c : Nat} {e : TypeId} {xs : List Value} (h : w.ownsRow base e 35 (.slice (some ⟨g, 0, none⟩) L c) L xs) {i : Nat} (hi : i < L) : w.there g (i * 35) 35 := fun j hj => by
  have h9 := there_own h hi hj 0 (by omega)
  simpa using h9
/-- entries i and j change places -/
def swpS (l : List Ent) (i j : Nat) (ei ej : Ent) : List Ent := (l.set i ej).set j ei
theorem swp_len (l : List Ent) (i j : Nat) (ei ej : Ent) : (swpS l i j ei ej).length = l.length := by unfold swpS; simp
theorem swp_get {l : List Ent} {i j : Nat} {ei ej : Ent} (hi : l[i]? = some ei) (hj : l[j]? = some ej) (x : Nat) :
    (swpS l i j ei ej)[x]? = if x = j then some ei else if x = i then some ej else l[x]? := by
  have h1 := (List.getElem?_eq_some_iff.1 hi).1
  have h2 := (List.getElem?_eq_some_iff.1 hj).1
  unfold swpS
  rw [List.getElem?_set]
  by_cases e : j = x
  · rw [if_pos e, if_pos (by rw [List.length_set]; omega), if_pos e.symm]
  · rw [if_neg e, if_neg (fun h => e h.symm), List.getElem?_set]
    by_cases e2 : i = x
    · rw [if_pos e2, if_pos (by omega), if_pos e2.symm]
    · rw [if_neg e2, if_neg (fun h => e2 h.symm)]
theorem swp_mem {l : List Ent} {i j : Nat} {ei ej : Ent} (hi : l[i]? = some ei) (hj : l[j]? = some ej) (e : Ent) : e ∈ swpS l i j ei ej ↔ e ∈ l := by
  constructor
  · intro h
    obtain ⟨x, hx⟩ := List.getElem?_of_mem h
    rw [swp_get hi hj] at hx
    by_cases e1 : x = j
    · rw [if_pos e1] at hx; cases hx; exact List.mem_of_getElem? hi
    · rw [if_neg e1] at hx
      by_cases e2 : x = i
      · rw [if_pos e2] at hx; cases hx; exact List.mem_of_getElem? hj
      · rw [if_neg e2] at hx; exact List.mem_of_getElem? hx
  · intro h
    obtain ⟨x, hx⟩ := List.getElem?_of_mem h
    by_cases e1 : x = j
    · subst e1
      rw [hj] at hx; cases hx
      refine List.mem_of_getElem? (i := i) ?_
      rw [swp_get hi hj]
      by_cases e2 : i = x
      · subst e2; rw [if_pos rfl, ← hi, hj]
      · rw [if_neg e2, if_pos rfl]
    · by_cases e2 : x = i
      · subst e2
        rw [hi] at hx; cases hx
        refine List.mem_of_getElem? (i := j) ?_
        rw [swp_get hi hj, if_pos rfl]
      · refine List.mem_of_getElem? (i := x) ?_
        rw [swp_get hi hj, if_neg e1, if_neg e2]; exact hx
/-- the two stores -/
theorem own_swap {w : World} {base g L c i j : Nat} {e : TypeId} {l : List Ent} {ei ej : Ent} (h : w.ownsRow base e 35 (.slice (some ⟨g, 0, none⟩) L c) L (l.flatMap encE)) (hl : l.length = L) (hk : ∀ x ∈ l, x.key.length = 32) (hi : l[i]? = some ei) (hj : l[j]? = some ej) :
    ((w.setCells g (i * 35) (encE ej)).setCells g (j * 35) (encE ei)).ownsRow base e 35 (.slice (some ⟨g, 0, none⟩) L c) L ((swpS l i j ei ej).flatMap encE) := by
  have h1 := (List.getElem?_eq_some_iff.1 hi).1
  have h2 := (List.getElem?_eq_some_iff.1 hj).1
  have ki := hk ei (List.mem_of_getElem? hi)
  have kj := hk ej (List.mem_of_getElem? hj)
  have a := own_setCells (encE ej) _ (i * 35) _ h
  rw [flat_setE kj hk h1] at a
  have b := own_setCells (encE ei) _ (j * 35) _ a
  rw [flat_setE ki (fun x hx => by
    rcases List.mem_or_eq_of_mem_set hx with h9 | rfl
    · exact hk x h9
    · exact kj) (by rw [List.length_set]; exact h2)] at b
  exact b
theorem putAll_key {l xs : List Ent} (hx : ∀ x ∈ xs, x ∈ l) (hk : ∀ e ∈ l, e.key.length = 32) : ∀ e ∈ putAll l xs, e.key.length = 32 := fun e he => by
  obtain ⟨y, hy, rfl⟩ := ((putAll_spec xs [] [] hx (fun _ h => by cases h) rises_none (fun e => by simp)).2 e).1 he
  rw [same_key]; exact hk y (hx y (by simpa using hy))
theorem putAll_none (l : List Ent) : putAll l (l.take 0) = [] := rfl
theorem sl_none {α : Type} {w : World} {k : Nat} {enc : α → List Value} : Sl w k enc (.slice none 0 0) ([] : List α) := by
  refine .inl ?_
  simp
end Go.Proofs.Ytomgjapjeckokaa
namespace Go.Proofs.Ytomgjapjeckokaa
open Go.RowKit Go.Shelf Go.Lib

theorem ownsRow_pos {w : World} {base n : Nat} {e : TypeId} {size : Nat} {v : Value} {xs : List Value} (h : w.ownsRow base e size v n xs) (hn : 0 < n) : ∃ g c, v = .slice (some ⟨g, 0, none⟩) n c ∧ base ≤ g := by
  rcases h.2 with ⟨-, h'⟩ | ⟨g, c, cur, h', hb, -⟩
  · omega
  · exact ⟨g, c, h', hb⟩
theorem key_found {l : List Ent} {key : List UInt8} (h : foundL l key = true) : posL l key < l.length ∧ keyAt l (posL l key) = key := by
  rw [foundL_is, Bool.and_eq_true, decide_eq_true_eq, decide_eq_true_eq] at h
  exact h
/-- a list of entries that stands, shown by its value -/
def HasE (W : World) (v : Value) (l : List Ent) : Prop := ∃ p c, v = .slice p l.length c ∧ Sl W 35 encE (.slice p l.length c) l
theorem HasE.of_owns {W : World} {base : Nat} {v : Value} {l : List Ent} (hk : ∀ e ∈ l, e.key.length = 32) (h : W.ownsRow base 48 35 v l.length (l.flatMap encE)) : HasE W v l := by
  have h9 := sl_of_owns (enc := encE) (fun y hy => by rw [encE_len, hk y hy]) h
  obtain ⟨p, c, rfl, -, -⟩ := owns_shape h
  exact ⟨p, c, rfl, h9⟩
theorem HasE.below {W W' : World} {v : Value} {l : List Ent} (h : HasE W v l) (hb : Below W.heap.size W W') : HasE W' v l := by
  obtain ⟨p, c, rfl, hs⟩ := h
  exact ⟨p, c, rfl, (Kept.of_below hb 0).sl hs⟩
theorem put_any (l xs : List Ent) (x : Ent) (v : Value) (w : World) (hx : ∀ y ∈ xs, y ∈ l) (hk : ∀ e ∈ l, e.key.length = 32) (hxl : x ∈ l) (hn : xs.length ≤ 1000) (hv : HasE w v (putAll l xs)) :
    Calls Try.prog 24 #[v, .agg (rowE (sameS l x))] w fun r w' => ∃ v' er, r = .returned (.tuple #[v', .int .i64 er]) ∧ Below w.heap.size w w' ∧
      ((er = 1 ∧ putS (putAll l xs) (sameS l x) = putAll l xs) ∨ (er = 0 ∧ HasE w' v' (putS (putAll l xs) (sameS l x)))) := by
  obtain ⟨p, c, rfl, hs⟩ := hv
  have hkA := putAll_key hx hk
  have hkx : (sameS l x).key.length = 32 := hk _ (same_mem hxl)
  have hl := putAll_len l xs
  refine (Insert_any (putAll l xs) (sameS l x) p c w hs (by omega) hkA hkx (rises_mono (putAll_rises hx) _)).mono ?_
  rintro r w' ⟨v', er, rfl, hb, ha⟩
  refine ⟨v', er, rfl, hb, ?_⟩
  rcases ha with ⟨hf, rfl, rfl⟩ | ⟨hf, ho, -, rfl⟩
  · exact .inl ⟨rfl, by unfold putS; rw [if_pos hf]⟩
  · refine .inr ⟨rfl, ?_⟩
    have e : putS (putAll l xs) (sameS l x) = insS (putAll l xs) (sameS l x) := by unfold putS; rw [if_neg (by rw [hf]; exact Bool.false_ne_true)]
    rw [e]
    exact HasE.of_owns (ins_key hkA hkx) (by rw [ins_len]; exact ho)

set_option maxRecDepth 100000 in
set_option maxHeartbeats 20000000 in
theorem IndexOrder_any (l : List Ent) (tl : List UInt8) (v vt : Value) (w : World) (hs : Sl w 35 encE v l) (hst : Sl w 1 encU vt tl) (hk : ∀ e ∈ l, e.key.length = 32) :
    Calls Try.prog 6 #[v, vt] w fun e w' => e = .returned (.bool true) ∧ Below w.heap.size w w' := by
  obtain ⟨i0, z, hi0, hz0, hz1, hz2, hz3⟩ := infoE_parts
  obtain ⟨n₀, hn₀⟩ : ∃ n, w.heap.size = n := ⟨_, rfl⟩
  obtain ⟨pl, cl, rfl, hlc⟩ := hs.shape
  obtain ⟨pt, ct, rfl, htc⟩ := hst.shape
  have hsB : ∀ W, Below n₀ w W → Sl W 35 encE (.slice pl l.length cl) l := fun W hB => (Kept.of_below (hn₀ ▸ hB : Below w.heap.size w W) 0).sl hs
  have htB : ∀ W, Below n₀ w W → Sl W 1 encU (.slice pt tl.length ct) tl := fun W hB => (Kept.of_below (hn₀ ▸ hB : Below w.heap.size w W) 0).sl hst
  have B0 : Below n₀ w w := Below.refl _ w
  unfold maxLen at hlc htc
  obtain ⟨L, hL⟩ : ∃ x, l.length = x := ⟨_, rfl⟩
  obtain ⟨LT, hLT⟩ : ∃ x, tl.length = x := ⟨_, rfl⟩
  rw [hL] at hsB hlc ⊢
  rw [hLT] at htB htc ⊢
  replace hL := hid hL
  replace hLT := hid hLT
  replace hsB := hid hsB
  replace htB := hid htB
  clear hs hst
  by_cases hbig : 60 < L
  · have hbi : (60 : Int) < (L : Int) := by omega
    go_enter Try.func6, Try.ntmps6
    go_wp2_with (fail)
    refine (wakes_any _).mono ?_
    rintro r w4 ⟨rfl, b4⟩
    have B4 := B0.trans (b4.mono (by have := B0.size; omega))
    clear b4
    go_wp2_with (fail)
    go_ret
    subst hn₀
    exact ⟨rfl, B4⟩
  have hbi : ¬ (60 : Int) < (L : Int) := by omega
  by_cases hbT : 200 < LT
  · have hbt : (200 : Int) < (LT : Int) := by omega
    go_enter Try.func6, Try.ntmps6
    go_wp2_with (fail)
    refine (wakes_any _).mono ?_
    rintro r w4 ⟨rfl, b4⟩
    have B4 := B0.trans (b4.mono (by have := B0.size; omega))
    clear b4
    go_wp2_with (fail)
    go_ret
    subst hn₀
    exact ⟨rfl, B4⟩
  have hbt : ¬ (200 : Int) < (LT : Int) := by omega
  have hlA : l.length ≤ 60 := by rw [hL.out]; omega
  have sA := (Kept.alloc 0 w (.cells #[] 48)).sl (hsB.out w B0)
  have BA := B0.alloc (by omega) (.cells #[] 48)
  have hz0' : n₀ ≤ w.heap.size := Nat.le_of_eq hn₀.symm
  replace hn₀ := hid hn₀
  go_enter Try.func6, Try.ntmps6
  go_upto_region 5 with (at_builtin; go_must (refine wpList_append_sl rfl _ _ 22 rfl w.heap.size 48 i0 z 35 56 Try.underlying22 hi0 hz0 hz1 hz2 hz3 (by decide) _ _ _ rfl (World.ownsRow_made w #[] 0 (Nat.le_refl _) (Nat.zero_le _) rfl) encE _ l rfl sA (encE_enc hk) (by unfold maxLen; omega) (by omega) (by simp) ?_; intro v5 w5 o5 hg5 n5))
  have B5 := BA.grown hg5 (by simp; omega) (fun j e => by simp [Value.ownBlock, Act.eval] at e; omega)
  have o5' : w5.ownsRow n₀ 48 35 v5 l.length (l.flatMap encE) := by rw [hn₀.out] at o5; simpa using o5
  obtain ⟨p7, c7, rfl, -, -⟩ := owns_shape o5'
  rw [hL.out] at o5' ⊢
  clear o5 hg5 n5 BA sA B0
  go_upto_block 0 with (fail)
  go_cut [] (fun wx => ∃ t : List Ent, t.length = L ∧ (∀ e, e ∈ t ↔ e ∈ l) ∧ Sl wx 35 encE (.slice p7 L c7) t ∧ Below n₀ w wx)
  case first => as_aux_lemma =>
    go_wp2_with (fail)
    go_loopw [8] (fun iv wr => ∃ (i : Nat) (t : List Ent), i ≤ L ∧ iv = .int .i64 i ∧ t.length = L ∧ (∀ e, e ∈ t ↔ e ∈ l) ∧ wr.ownsRow n₀ 48 35 (.slice p7 L c7) L (t.flatMap encE) ∧ Below n₀ w wr) (fun iv _ => L - (RowKit.intOf iv).toNat)
    case atStart => exact ⟨0, l, Nat.zero_le _, rfl, hL.out, fun _ => Iff.rfl, o5', B5⟩
    case round =>
      obtain ⟨i, t, hiL, rfl, htl, htm, ot, Bt⟩ := hrel
      clear o5' B5
      have htk : ∀ e ∈ t, e.key.length = 32 := fun e he => hk e ((htm e).1 he)
      have st : Sl wr 35 encE (.slice p7 L c7) t := sl_of_owns (enc := encE) (l := t) (fun y hy => by rw [encE_len, htk y hy]) (by rw [htl]; exact ot)
      by_cases hlt : i < L
      · have hiI : (i : Int) < (L : Int) := by omega
        by_cases hT0 : 0 < LT
        · have hTI : (0 : Int) < (LT : Int) := by omega
          obtain ⟨x, hx⟩ : ∃ x, tl[i % LT]? = some x := ⟨_, List.getElem?_eq_getElem (by rw [hLT.out]; exact Nat.mod_lt _ hT0)⟩
          obtain ⟨bt, ot', ct', he, -, -, hct⟩ := (htB.out wr Bt).open (by rintro rfl; simp at hx)
          obtain ⟨rfl, -, rfl⟩ := Value.slice.inj he
          clear he
          obtain ⟨m, hm⟩ : ∃ m, i % LT = m := ⟨_, rfl⟩
          have hmL : m < LT := by rw [← hm]; exact Nat.mod_lt _ hT0
          rw [hm] at hx
          have hcx := hct m x hx
          rw [Nat.mul_one] at hcx
          have hcx1 := rangeAt_one hcx
          have hmT : (i : Int).tmod (LT : Int) = (m : Int) := by rw [← hm, Int.tmod_eq_emod_of_nonneg (by omega)]; omega
          obtain ⟨k, hk0⟩ : ∃ k, x.toNat % L = k := ⟨_, rfl⟩
          have hkN : k < L := by rw [← hk0]; exact Nat.mod_lt _ (by omega)
          have hiN : i < L := hlt
          have hkT : (x.toNat : Int).tmod (L : Int) = (k : Int) := by rw [← hk0, Int.tmod_eq_emod_of_nonneg (by omega)]; omega
          have hw0 : IntKind.i64.wrap (x.toNat : Int) = (x.toNat : Int) := by have := x.toNat_lt; rw [IntKind.wrap_i64]; omega
          have hv0 : wrap64 (x.toNat : Int) = (x.toNat : Int) := by have := x.toNat_lt; unfold wrap64; omega
          have hm64 : IntKind.i64.wrap (m : Int) = (m : Int) := by rw [IntKind.wrap_i64]; omega
          have hk64 : IntKind.i64.wrap (k : Int) = (k : Int) := by rw [IntKind.wrap_i64]; omega
          have hmI : (m : Int) < (LT : Int) := by omega
          have hkI : (k : Int) < (L : Int) := by omega
          have hL0 : ¬ (L : Int) = 0 := by omega
          have hL1 : ¬ L = 0 := by omega
          have hT1 : ¬ (LT : Int) = 0 := by omega
          have hT2 : ¬ LT = 0 := by omega
          obtain ⟨ei, hei⟩ : ∃ e, t[i]? = some e := ⟨_, List.getElem?_eq_getElem (by rw [htl]; exact hiN)⟩
          obtain ⟨ek, hek⟩ : ∃ e, t[k]? = some e := ⟨_, List.getElem?_eq_getElem (by rw [htl]; exact hkN)⟩
          obtain ⟨g7, c7', rfl', hg7⟩ := ownsRow_pos ot (by omega)
          obtain ⟨rfl, -, rfl⟩ := Value.slice.inj rfl'
          clear rfl'
          have hki := htk ei (List.mem_of_getElem? hei)
          have hkk := htk ek (List.mem_of_getElem? hek)
          have hgn : n₀ ≤ g7 := hg7
          have od : wr.drew.ownsRow n₀ 48 35 (.slice (some ⟨g7, 0, none⟩) L c7) L (t.flatMap encE) := ot
          have Bd : Below n₀ w wr.drew := Bt.drewN 1
          have sd : Sl wr.drew 35 encE (.slice (some ⟨g7, 0, none⟩) L c7) t := sl_of_owns (enc := encE) (l := t) (fun y hy => by rw [encE_len, htk y hy]) (by rw [htl]; exact od)
          obtain ⟨b', o', c', he, -, -, hcd⟩ := sd.open (by rintro rfl; simp at hei)
          simp only [Value.slice.injEq, Option.some.injEq, Addr.mk.injEq, and_true] at he
          obtain ⟨⟨rfl, rfl⟩, -, rfl⟩ := he
          have hri := hcd i ei hei
          have hrk := hcd k ek hek
          rw [Nat.zero_add] at hri hrk
          have hiiE : (Try.prog.info? 48).map (·.size) = some (encE ei).length := by rw [encE_len, hki]; kernel_rfl
          have hikE : (Try.prog.info? 48).map (·.size) = some (encE ek).length := by rw [encE_len, hkk]; kernel_rfl
          have hiiR : (Try.prog.info? 48).map (·.size) = some (rowE ei).size := by rw [rowE_size hki]; kernel_rfl
          have hikR : (Try.prog.info? 48).map (·.size) = some (rowE ek).size := by rw [rowE_size hkk]; kernel_rfl
          have osw := own_swap od htl htk hei hek
          have hsl : (swpS t i k ei ek).length = L := by rw [swp_len, htl]
          have hsm : ∀ e, e ∈ swpS t i k ei ek ↔ e ∈ l := fun e => (swp_mem hei hek e).trans (htm e)
          have hst : (fun W => (∃ xs, W.ownsRow n₀ 48 35 (.slice (some ⟨g7, 0, none⟩) L c7) L xs) ∧ Below n₀ w W) wr.drew := ⟨⟨_, od⟩, Bd⟩
          clear hct hcx hm hk0 hcd sd ot st
          replace hsm := hid hsm
          replace htm := hid htm
          replace htk := hid htk
          replace hsl := hid hsl
          replace htl := hid htl
          replace hei := hid hei
          replace hek := hid hek
          replace hx := hid hx
          go_upto_region 9 with (fail)
          replace osw := hid osw
          refine wp_region_held_drew (S := (fun W => (∃ xs, W.ownsRow n₀ 48 35 (.slice (some ⟨g7, 0, none⟩) L c7) L xs) ∧ Below n₀ w W)) (by kernel_rfl) hst (fun hHeld => ?_)
          refine wpAnyH_take (i := 0) (oi := ⟨some 52, _, _, _, _, _⟩) (v := ?_) rfl (by kernel_rfl) (by kernel_rfl) (by kernel_rfl) (fun _ _ _ h => h) (Or.inl ⟨by rfl, ?_⟩) (by assumption) ?_
          rotate_left
          · intro w hSw; (try dsimp only at hSw); go_simp <;> with_reducible rfl
          try simp only [Act.put, List.setIfInBounds_toArray, List.set_cons_zero, List.set_cons_succ]
          refine wpAnyH_take (i := 1) (oi := ⟨some 53, _, _, _, _, _⟩) (v := ?_) rfl (by kernel_rfl) (by kernel_rfl) (by kernel_rfl) (fun _ _ _ h => h) (Or.inl ⟨by rfl, ?_⟩) (by assumption) ?_
          rotate_left
          · intro w hSw; (try dsimp only at hSw); go_simp <;> with_reducible rfl
          try simp only [Act.put, List.setIfInBounds_toArray, List.set_cons_zero, List.set_cons_succ]
          refine wpAnyH_take (i := 2) (oi := ⟨some 54, _, _, _, _, _⟩) (v := ?_) rfl (by kernel_rfl) (by kernel_rfl) (by kernel_rfl) (fun _ _ _ h => h) (Or.inl ⟨by rfl, ?_⟩) (by assumption) ?_
          rotate_left
          · intro w hSw; (try dsimp only at hSw); go_simp <;> with_reducible rfl
          try simp only [Act.put, List.setIfInBounds_toArray, List.set_cons_zero, List.set_cons_succ]
          refine wpAnyH_take (i := 3) (oi := ⟨some 55, _, _, _, _, _⟩) (v := ?_) rfl (by kernel_rfl) (by kernel_rfl) (by kernel_rfl) (fun _ _ _ h => h) (Or.inl ⟨by rfl, ?_⟩) (by assumption) ?_
          rotate_left
          · intro w hSw; (try dsimp only at hSw); go_simp <;> with_reducible rfl
          try simp only [Act.put, List.setIfInBounds_toArray, List.set_cons_zero, List.set_cons_succ]
          refine wpAnyH_take (i := 4) (oi := ⟨some 56, _, _, _, _, _⟩) (v := ?_) rfl (by kernel_rfl) (by kernel_rfl) (by kernel_rfl) (fun _ _ _ h => h) (Or.inl ⟨by rfl, ?_⟩) (by assumption) ?_
          rotate_left
          · intro w hSw; (try dsimp only at hSw); go_simp <;> with_reducible rfl
          try simp only [Act.put, List.setIfInBounds_toArray, List.set_cons_zero, List.set_cons_succ]
          refine wpAnyH_take (i := 5) (oi := ⟨some 57, _, _, _, _, _⟩) (v := ?_) rfl (by kernel_rfl) (by kernel_rfl) (by kernel_rfl) (fun _ _ _ h => h) (Or.inl ⟨by rfl, ?_⟩) (by assumption) ?_
          rotate_left
          · intro w hSw; (try dsimp only at hSw); go_simp <;> with_reducible rfl
          try simp only [Act.put, List.setIfInBounds_toArray, List.set_cons_zero, List.set_cons_succ]
          refine wpAnyH_take (i := 6) (oi := ⟨some 58, _, _, _, _, _⟩) (v := ?_) rfl (by kernel_rfl) (by kernel_rfl) (by kernel_rfl) (fun _ _ _ h => h) (Or.inl ⟨by rfl, ?_⟩) (by assumption) ?_
          rotate_left
          · intro w hSw; (try dsimp only at hSw); go_simp <;> with_reducible rfl
          try simp only [Act.put, List.setIfInBounds_toArray, List.set_cons_zero, List.set_cons_succ]
          refine wpAnyH_take (i := 8) (oi := ⟨some 60, _, _, _, _, _⟩) (v := ?_) rfl (by kernel_rfl) (by kernel_rfl) (by kernel_rfl) (fun _ _ _ h => h) (Or.inl ⟨by rfl, ?_⟩) (by assumption) ?_
          rotate_left
          · intro w hSw; (try dsimp only at hSw); go_simp <;> with_reducible rfl
          try simp only [Act.put, List.setIfInBounds_toArray, List.set_cons_zero, List.set_cons_succ]
          refine wpAnyH_take (i := 9) (oi := ⟨some 61, _, _, _, _, _⟩) (v := ?_) rfl (by kernel_rfl) (by kernel_rfl) (by kernel_rfl) (fun _ _ _ h => h) (Or.inl ⟨by rfl, ?_⟩) (by assumption) ?_
          rotate_left
          · intro w hSw; (try dsimp only at hSw); go_simp <;> with_reducible rfl
          try simp only [Act.put, List.setIfInBounds_toArray, List.set_cons_zero, List.set_cons_succ]
          refine wpAnyH_take (i := 10) (oi := ⟨some 62, _, _, _, _, _⟩) (v := ?_) rfl (by kernel_rfl) (by kernel_rfl) (by kernel_rfl) (fun _ _ _ h => h) (Or.inl ⟨by rfl, ?_⟩) (by assumption) ?_
          rotate_left
          · intro w hSw; (try dsimp only at hSw); go_simp <;> with_reducible rfl
          try simp only [Act.put, List.setIfInBounds_toArray, List.set_cons_zero, List.set_cons_succ]
          refine wpAnyH_ready (rs := [7, 11]) (by kernel_rfl) (by simp) ?_
          refine AllReadyH.cons (o := ⟨some 59, _, _, _, _, _⟩) rfl (fun K hK => ?_) ?_
          · refine (if_pos (by rfl)).mpr ?_
            refine wp_load_mid 48 _ rfl g7 (k * 35) rfl (encE ek) _ hrk Try.underlying48 rfl hikE ?_
            refine hK.out _ _ hHeld (fun hHeld => ?_)
            clear hK K
            try simp only [Act.put, List.setIfInBounds_toArray, List.set_cons_zero, List.set_cons_succ]
            refine wpAnyH_ready (rs := [11]) (by kernel_rfl) (by simp) ?_
            refine AllReadyH.cons (o := ⟨some 63, _, _, _, _, _⟩) rfl (fun K hK => ?_) AllReadyH.nil
            refine (if_pos (by rfl)).mpr ?_
            refine wp_load_mid 48 _ rfl g7 (i * 35) rfl (encE ei) _ hri Try.underlying48 rfl hiiE ?_
            refine hK.out _ _ hHeld (fun hHeld => ?_)
            clear hK K
            try simp only [Act.put, List.setIfInBounds_toArray, List.set_cons_zero, List.set_cons_succ]
            refine wpAnyH_take (i := 12) (oi := ⟨some 64, _, _, _, _, _⟩) (v := ?_) rfl (by kernel_rfl) (by kernel_rfl) (by kernel_rfl) (fun _ _ _ h => h) (Or.inl ⟨by rfl, ?_⟩) (by assumption) ?_
            rotate_left
            · intro w hSw; (try dsimp only at hSw); go_simp <;> with_reducible rfl
            try simp only [Act.put, List.setIfInBounds_toArray, List.set_cons_zero, List.set_cons_succ]
            refine wpAnyH_ready (rs := [13]) (by kernel_rfl) (by simp) ?_
            refine AllReadyH.cons (o := ⟨none, _, _, _, _, _⟩) rfl (fun K hK => ?_) AllReadyH.nil
            refine (if_pos (by rfl)).mpr ?_
            obtain ⟨⟨xs, hox⟩, hbx⟩ := hHeld
            refine wp_store_mid 48 _ _ rfl g7 (i * 35) (rowE ek) rfl rfl (by rw [rowE_size hkk]; exact there_row hox hiN) hikR (one_rowE _) ?_
            refine hK.out _ _ (by exact ⟨⟨_, own_setCells _ _ _ _ hox⟩, below_setCells hgn _ _ _ hbx⟩) (fun hHeld => ?_)
            clear hK K
            try simp only [Act.put, List.setIfInBounds_toArray, List.set_cons_zero, List.set_cons_succ]
            refine wpAnyH_take (i := 14) (oi := ⟨some 65, _, _, _, _, _⟩) (v := ?_) rfl (by kernel_rfl) (by kernel_rfl) (by kernel_rfl) (fun _ _ _ h => h) (Or.inl ⟨by rfl, ?_⟩) (by assumption) ?_
            rotate_left
            · intro w hSw; (try dsimp only at hSw); go_simp <;> with_reducible rfl
            try simp only [Act.put, List.setIfInBounds_toArray, List.set_cons_zero, List.set_cons_succ]
            refine wpAnyH_ready (rs := [15]) (by kernel_rfl) (by simp) ?_
            refine AllReadyH.cons (o := ⟨none, _, _, _, _, _⟩) rfl (fun K hK => ?_) AllReadyH.nil
            refine (if_pos (by rfl)).mpr ?_
            obtain ⟨⟨xs, hox⟩, hbx⟩ := hHeld
            refine wp_store_mid 48 _ _ rfl g7 (k * 35) (rowE ei) rfl rfl (by rw [rowE_size hki]; exact there_row hox hkN) hiiR (one_rowE _) ?_
            refine hK.out _ _ (by exact ⟨⟨_, own_setCells _ _ _ _ hox⟩, below_setCells hgn _ _ _ hbx⟩) (fun hHeld => ?_)
            clear hK K
            try simp only [Act.put, List.setIfInBounds_toArray, List.set_cons_zero, List.set_cons_succ]
            refine wpAnyH_done (by kernel_rfl) ?_ _
            have Bz := hHeld.2
            clear hHeld hst
            go_wp2_with (fail)
            refine ⟨?_, ?_⟩
            · first | exact ⟨i + 1, _, by omega, by go_num, hsl.out, hsm.out, osw.out, Bz⟩ | ((repeat apply Exists.intro); refine ⟨?_, rfl⟩; exact ⟨i + 1, _, by omega, by go_num, hsl.out, hsm.out, osw.out, Bz⟩)
            · simp [RowKit.intOf]; omega
          refine AllReadyH.cons (o := ⟨some 63, _, _, _, _, _⟩) rfl (fun K hK => ?_) AllReadyH.nil
          refine (if_pos (by rfl)).mpr ?_
          refine wp_load_mid 48 _ rfl g7 (i * 35) rfl (encE ei) _ hri Try.underlying48 rfl hiiE ?_
          refine hK.out _ _ hHeld (fun hHeld => ?_)
          clear hK K
          try simp only [Act.put, List.setIfInBounds_toArray, List.set_cons_zero, List.set_cons_succ]
          refine wpAnyH_ready (rs := [7]) (by kernel_rfl) (by simp) ?_
          refine AllReadyH.cons (o := ⟨some 59, _, _, _, _, _⟩) rfl (fun K hK => ?_) AllReadyH.nil
          refine (if_pos (by rfl)).mpr ?_
          refine wp_load_mid 48 _ rfl g7 (k * 35) rfl (encE ek) _ hrk Try.underlying48 rfl hikE ?_
          refine hK.out _ _ hHeld (fun hHeld => ?_)
          clear hK K
          try simp only [Act.put, List.setIfInBounds_toArray, List.set_cons_zero, List.set_cons_succ]
          refine wpAnyH_take (i := 12) (oi := ⟨some 64, _, _, _, _, _⟩) (v := ?_) rfl (by kernel_rfl) (by kernel_rfl) (by kernel_rfl) (fun _ _ _ h => h) (Or.inl ⟨by rfl, ?_⟩) (by assumption) ?_
          rotate_left
          · intro w hSw; (try dsimp only at hSw); go_simp <;> with_reducible rfl
          try simp only [Act.put, List.setIfInBounds_toArray, List.set_cons_zero, List.set_cons_succ]
          refine wpAnyH_ready (rs := [13]) (by kernel_rfl) (by simp) ?_
          refine AllReadyH.cons (o := ⟨none, _, _, _, _, _⟩) rfl (fun K hK => ?_) AllReadyH.nil
          refine (if_pos (by rfl)).mpr ?_
          obtain ⟨⟨xs, hox⟩, hbx⟩ := hHeld
          refine wp_store_mid 48 _ _ rfl g7 (i * 35) (rowE ek) rfl rfl (by rw [rowE_size hkk]; exact there_row hox hiN) hikR (one_rowE _) ?_
          refine hK.out _ _ (by exact ⟨⟨_, own_setCells _ _ _ _ hox⟩, below_setCells hgn _ _ _ hbx⟩) (fun hHeld => ?_)
          clear hK K
          try simp only [Act.put, List.setIfInBounds_toArray, List.set_cons_zero, List.set_cons_succ]
          refine wpAnyH_take (i := 14) (oi := ⟨some 65, _, _, _, _, _⟩) (v := ?_) rfl (by kernel_rfl) (by kernel_rfl) (by kernel_rfl) (fun _ _ _ h => h) (Or.inl ⟨by rfl, ?_⟩) (by assumption) ?_
          rotate_left
          · intro w hSw; (try dsimp only at hSw); go_simp <;> with_reducible rfl
          try simp only [Act.put, List.setIfInBounds_toArray, List.set_cons_zero, List.set_cons_succ]
          refine wpAnyH_ready (rs := [15]) (by kernel_rfl) (by simp) ?_
          refine AllReadyH.cons (o := ⟨none, _, _, _, _, _⟩) rfl (fun K hK => ?_) AllReadyH.nil
          refine (if_pos (by rfl)).mpr ?_
          obtain ⟨⟨xs, hox⟩, hbx⟩ := hHeld
          refine wp_store_mid 48 _ _ rfl g7 (k * 35) (rowE ei) rfl rfl (by rw [rowE_size hki]; exact there_row hox hkN) hiiR (one_rowE _) ?_
          refine hK.out _ _ (by exact ⟨⟨_, own_setCells _ _ _ _ hox⟩, below_setCells hgn _ _ _ hbx⟩) (fun hHeld => ?_)
          clear hK K
          try simp only [Act.put, List.setIfInBounds_toArray, List.set_cons_zero, List.set_cons_succ]
          refine wpAnyH_done (by kernel_rfl) ?_ _
          have Bz := hHeld.2
          clear hHeld hst
          go_wp2_with (fail)
          refine ⟨?_, ?_⟩
          · first | exact ⟨i + 1, _, by omega, by go_num, hsl.out, hsm.out, osw.out, Bz⟩ | ((repeat apply Exists.intro); refine ⟨?_, rfl⟩; exact ⟨i + 1, _, by omega, by go_num, hsl.out, hsm.out, osw.out, Bz⟩)
          · simp [RowKit.intOf]; omega
        · have hTI : ¬ (0 : Int) < (LT : Int) := by omega
          go_wp2_with (fail)
          go_meet
          case rel => exact ⟨t, htl, htm, st, Bt⟩
      · have hiI : ¬ (i : Int) < (L : Int) := by omega
        go_wp2_with (fail)
        go_meet
        case rel => exact ⟨t, htl, htm, st, Bt⟩
  case rest =>
  obtain ⟨t, htl, htm, st, Bt⟩ := hcut
  clear o5' B5
  obtain ⟨w9, hw9⟩ : ∃ W : World, wc = W := ⟨_, rfl⟩
  rw [hw9] at st Bt ⊢
  clear hw9
  have htk : ∀ e ∈ t, e.key.length = 32 := fun e he => hk e ((htm e).1 he)
  have hsB9 : ∀ W, Below w9.heap.size w9 W → Sl W 35 encE (.slice pl L cl) l := fun W hB => (Kept.of_below hB 0).sl (hsB.out w9 Bt)
  have htB9 : ∀ W, Below w9.heap.size w9 W → Sl W 35 encE (.slice p7 L c7) t := fun W hB => (Kept.of_below hB 0).sl st
  have B9 : Below w9.heap.size w9 w9 := Below.refl _ _
  have cP := hid (fun (xs : List Ent) (x : Ent) (v : Value) (W : World) (h1 : ∀ y ∈ xs, y ∈ l) (h2 : x ∈ l) (h3 : xs.length ≤ 1000) (h4 : HasE W v (putAll l xs)) => put_any l xs x v W h1 hk h2 h3 h4)
  have cS := hid (fun (x : Ent) (W : World) (h : Below w9.heap.size w9 W) (hx : x.key.length = 32) => same_any l x (.slice pl L cl) W (hsB9 W h) hk hx)
  have hxl : ∀ n, ∀ y ∈ l.take n, y ∈ l := fun n y hy => List.mem_of_mem_take hy
  have hxt : ∀ n, ∀ y ∈ t.take n, y ∈ l := fun n y hy => (htm y).1 (List.mem_of_mem_take hy)
  replace hsB9 := hid hsB9
  replace htB9 := hid htB9
  replace htl := hid htl
  replace htm := hid htm
  replace htk := hid htk
  replace hxl := hid hxl
  replace hxt := hid hxt
  clear st
  go_wp2_with (fail)
  go_loopw [5, 6, 10] (fun av bv iv wr => ∃ k : Nat, k ≤ L ∧ iv = .int .i64 k ∧ HasE wr av (putAll l (l.take k)) ∧ HasE wr bv (putAll l (t.take k)) ∧ Below w9.heap.size w9 wr) (fun _ _ iv _ => L - (RowKit.intOf iv).toNat)
  case atStart => exact ⟨0, Nat.zero_le _, rfl, ⟨none, 0, rfl, sl_none⟩, ⟨none, 0, rfl, sl_none⟩, B9⟩
  case round =>
    obtain ⟨k, hkL, rfl, ha, hb, BR⟩ := hrel
    clear B9
    by_cases hlt : k < L
    · have hkI : (k : Int) < (L : Int) := by omega
      obtain ⟨ea, hea⟩ : ∃ e, l[k]? = some e := ⟨_, List.getElem?_eq_getElem (by rw [hL.out]; omega)⟩
      obtain ⟨eb, heb⟩ : ∃ e, t[k]? = some e := ⟨_, List.getElem?_eq_getElem (by rw [htl.out]; omega)⟩
      have hka := hk ea (List.mem_of_getElem? hea)
      have hkb := htk.out eb (List.mem_of_getElem? heb)
      have hma : ea ∈ l := List.mem_of_getElem? hea
      have hmb : eb ∈ l := (htm.out eb).1 (List.mem_of_getElem? heb)
      have hiaE : (Try.prog.info? 48).map (·.size) = some (encE ea).length := by rw [encE_len, hka]; kernel_rfl
      have hibE : (Try.prog.info? 48).map (·.size) = some (encE eb).length := by rw [encE_len, hkb]; kernel_rfl
      obtain ⟨bl, ol, cl', he, -, -, hcl⟩ := (hsB9.out wr BR).open (by rintro rfl; simp at hea)
      obtain ⟨rfl, -, rfl⟩ := Value.slice.inj he
      clear he
      have hra := hcl k ea hea
      obtain ⟨bm, om, cm', he, -, -, -⟩ := (htB9.out wr BR).open (by rintro rfl; simp at heb)
      obtain ⟨rfl, -, rfl⟩ := Value.slice.inj he
      clear he
      have hrb9 : ∀ W, Below w9.heap.size w9 W → W.rangeAt bm (om + k * 35) (encE eb) := fun W hW => by
        obtain ⟨b', o', c', he, -, -, hc⟩ := (htB9.out W hW).open (by rintro rfl; simp at heb)
        obtain ⟨h1, -⟩ := Value.slice.inj he
        obtain ⟨rfl, rfl, -⟩ := Addr.mk.inj (Option.some.inj h1)
        exact hc k eb heb
      have hea' := putAll_take (l := l) hea
      have heb' := putAll_take (l := l) heb
      have hlk1 : (l.take k).length ≤ 1000 := by rw [List.length_take]; omega
      have htk1 : (t.take k).length ≤ 1000 := by rw [List.length_take]; omega
      clear hcl
      replace hea := hid hea
      replace heb := hid heb
      replace hea' := hid hea'
      replace heb' := hid heb'
      replace hrb9 := hid hrb9
      replace ha := hid ha
      replace hb := hid hb
      go_wp2_with (refine wpList_load_mid rfl 48 _ rfl bl (ol + k * 35) rfl (encE ea) _ hra Try.underlying48 rfl hiaE ?_)
      refine (cS.out ea _ BR hka).mono ?_
      rintro r w10 ⟨rfl, b10⟩
      have ha10 := ha.out.below b10
      have hb10 := hid (hb.out.below b10)
      have B10 := BR.trans (b10.mono BR.size)
      clear ha hb b10 BR hra
      go_wp2_with (fail)
      refine (cP.out (l.take k) ea _ _ (hxl.out k) hma hlk1 ha10).mono ?_
      rintro r w11 ⟨va, era, rfl, b11, hans⟩
      have ha11 := hid (ha10.below b11)
      have hb11 := hid (hb10.out.below b11)
      have B11 := B10.trans (b11.mono B10.size)
      clear ha10 hb10 b11 B10
      rcases hans with ⟨rfl, hsm⟩ | ⟨rfl, hna⟩
      · have hA0 := ha11.out
        rw [← hsm, ← hea'.out] at hA0
        have hA := hid hA0
        clear hA0
        clear ha11 hsm
        have hrb11 := hrb9.out _ B11
        go_wp2_with (refine wpList_load_mid rfl 48 _ rfl bm (om + k * 35) rfl (encE eb) _ hrb11 Try.underlying48 rfl hibE ?_)
        refine (cS.out eb _ B11 hkb).mono ?_
        rintro r w12 ⟨rfl, b12⟩
        have hA12 := hid (hA.out.below b12)
        have hb12 := hb11.out.below b12
        have B12 := B11.trans (b12.mono B11.size)
        clear hA hb11 b12 B11 hrb11
        go_wp2_with (fail)
        refine (cP.out (t.take k) eb _ _ (hxt.out k) hmb htk1 hb12).mono ?_
        rintro r w13 ⟨vb, erb, rfl, b13, hans⟩
        have hA13 := hid (hA12.out.below b13)
        have hb13 := hid (hb12.below b13)
        have B13 := B12.trans (b13.mono B12.size)
        clear hA12 hb12 b13 B12
        rcases hans with ⟨rfl, hsm⟩ | ⟨rfl, hnb⟩
        · have hB0 := hb13.out
          rw [← hsm, ← heb'.out] at hB0
          have hB := hid hB0
          clear hB0
          clear hb13 hsm
          go_wp2_with (fail)
          refine ⟨?_, ?_⟩
          · first | exact ⟨k + 1, by omega, by go_num, hA13.out, hB.out, B13⟩ | ((repeat apply Exists.intro); refine ⟨?_, rfl⟩; exact ⟨k + 1, by omega, by go_num, hA13.out, hB.out, B13⟩)
          · simp [RowKit.intOf]; omega
        · rw [← heb'.out] at hnb
          have hB := hid hnb
          clear hb13 hnb
          go_wp2_with (fail)
          refine ⟨?_, ?_⟩
          · first | exact ⟨k + 1, by omega, by go_num, hA13.out, hB.out, B13⟩ | ((repeat apply Exists.intro); refine ⟨?_, rfl⟩; exact ⟨k + 1, by omega, by go_num, hA13.out, hB.out, B13⟩)
          · simp [RowKit.intOf]; omega
      · rw [← hea'.out] at hna
        have hA := hid hna
        clear ha11 hna
        have hrb11 := hrb9.out _ B11
        go_wp2_with (refine wpList_load_mid rfl 48 _ rfl bm (om + k * 35) rfl (encE eb) _ hrb11 Try.underlying48 rfl hibE ?_)
        refine (cS.out eb _ B11 hkb).mono ?_
        rintro r w12 ⟨rfl, b12⟩
        have hA12 := hid (hA.out.below b12)
        have hb12 := hb11.out.below b12
        have B12 := B11.trans (b12.mono B11.size)
        clear hA hb11 b12 B11 hrb11
        go_wp2_with (fail)
        refine (cP.out (t.take k) eb _ _ (hxt.out k) hmb htk1 hb12).mono ?_
        rintro r w13 ⟨vb, erb, rfl, b13, hans⟩
        have hA13 := hid (hA12.out.below b13)
        have hb13 := hid (hb12.below b13)
        have B13 := B12.trans (b13.mono B12.size)
        clear hA12 hb12 b13 B12
        rcases hans with ⟨rfl, hsm⟩ | ⟨rfl, hnb⟩
        · have hB0 := hb13.out
          rw [← hsm, ← heb'.out] at hB0
          have hB := hid hB0
          clear hB0
          clear hb13 hsm
          go_wp2_with (fail)
          refine ⟨?_, ?_⟩
          · first | exact ⟨k + 1, by omega, by go_num, hA13.out, hB.out, B13⟩ | ((repeat apply Exists.intro); refine ⟨?_, rfl⟩; exact ⟨k + 1, by omega, by go_num, hA13.out, hB.out, B13⟩)
          · simp [RowKit.intOf]; omega
        · rw [← heb'.out] at hnb
          have hB := hid hnb
          clear hb13 hnb
          go_wp2_with (fail)
          refine ⟨?_, ?_⟩
          · first | exact ⟨k + 1, by omega, by go_num, hA13.out, hB.out, B13⟩ | ((repeat apply Exists.intro); refine ⟨?_, rfl⟩; exact ⟨k + 1, by omega, by go_num, hA13.out, hB.out, B13⟩)
          · simp [RowKit.intOf]; omega
    · obtain rfl : L = k := by omega
      rw [← hL.out, List.take_length] at ha
      rw [← htl.out, List.take_length] at hb
      have hab : putAll l l = putAll l t := putAll_eq (fun _ h => h) (fun e => (htm.out e).symm)
      rw [← hab] at hb
      obtain ⟨A, hA⟩ : ∃ A, putAll l l = A := ⟨_, rfl⟩
      have hAr : risesL A = true := by rw [← hA]; exact putAll_rises (fun _ h => h)
      have hAk : ∀ e ∈ A, e.key.length = 32 := by rw [← hA]; exact putAll_key (fun _ h => h) hk
      have hAl : A.length ≤ L := by rw [← hA, ← hL.out]; exact putAll_len l l
      have hAf : ∀ x ∈ l, foundL A x.key = true := by rw [← hA]; exact fun x hx => putAll_found (fun _ h => h) hx
      rw [hA] at ha hb
      clear hA hab cP cS hxl hxt htB9 htm htk htl
      obtain ⟨pA, cA, rfl, sA⟩ := ha
      obtain ⟨pB, cB, rfl, sB⟩ := hb
      obtain ⟨LA, hLA⟩ : ∃ n, A.length = n := ⟨_, rfl⟩
      rw [hLA] at hAl sA sB ⊢
      have hALI : (LA : Int) ≤ (L : Int) := by omega
      have cE := hid (Entries_any A A _ _ wr sA sB hAk hAk (by rw [hLA]; omega) (by unfold maxLen; rw [hLA]; omega))
      rw [decide_eq_true (rfl : A = A)] at cE
      have cR := hid (fun W (h : Sl W 35 encE (.slice pA LA cA) A) => by have h9 := Rising_any A _ W h hAk (by rw [hLA]; omega); rw [hAr] at h9; exact h9)
      have cF := hid (fun (key : List UInt8) W (h : Sl W 35 encE (.slice pA LA cA) A) (hk2 : key.length = 32) => Find_any A key pA cA W (by rw [hLA]; exact h) (by rw [hLA]; omega) hAk hk2 (rises_mono hAr key))
      rw [hLA] at cF
      replace hLA := hid hLA
      replace hAf := hid hAf
      replace hAk := hid hAk
      replace hAr := hid hAr
      replace sA := hid sA
      clear sB
      go_wp2_with (fail)
      refine cE.out.mono ?_
      rintro r w14 ⟨rfl, b14⟩
      have s14 := hid ((Kept.of_below b14 0).sl sA.out)
      have B14 := BR.trans (b14.mono BR.size)
      clear cE sA b14 BR
      go_wp2_with (fail)
      refine (cR.out _ s14.out).mono ?_
      rintro r w15 ⟨rfl, b15⟩
      have s15 := hid ((Kept.of_below b15 0).sl s14.out)
      have B15 := B14.trans (b15.mono B14.size)
      clear cR s14 b15 B14
      go_wp2_with (fail)
      go_loopw [15] (fun iv wr => ∃ k : Nat, k ≤ L ∧ iv = .int .i64 k ∧ Sl wr 35 encE (.slice pA LA cA) A ∧ Below w9.heap.size w9 wr) (fun iv _ => L - (RowKit.intOf iv).toNat)
      case atStart => exact ⟨0, Nat.zero_le _, rfl, s15.out, B15⟩
      case round =>
        obtain ⟨k, hkL, rfl, sR, BR⟩ := hrel
        clear s15 B15
        by_cases hlt : k < L
        · have hkI : (k : Int) < (L : Int) := by omega
          obtain ⟨y, hy⟩ : ∃ e, l[k]? = some e := ⟨_, List.getElem?_eq_getElem (by rw [hL.out]; omega)⟩
          have hky := hk y (List.mem_of_getElem? hy)
          have hfy := hAf.out y (List.mem_of_getElem? hy)
          obtain ⟨hq1, hq2⟩ := key_found hfy
          obtain ⟨q, hq⟩ : ∃ q, posL A y.key = q := ⟨_, rfl⟩
          have cG := cF.out y.key wr sR hky
          rw [hfy, hq] at cG
          rw [hq] at hq1 hq2
          obtain ⟨f, hf⟩ : ∃ e, A[q]? = some e := ⟨_, List.getElem?_eq_getElem hq1⟩
          rw [keyAt_of hf] at hq2
          rw [hLA.out] at hq1
          have hqI : (q : Int) < (LA : Int) := by omega
          have hqI2 : ¬ (LA : Int) ≤ (q : Int) := by omega
          have hqI3 : ¬ (q : Int) < 0 := by omega
          have hqb1 : decide ((q : Int) < 0) = false := decide_eq_false hqI3
          have hqb2 : decide (LA ≤ q) = false := decide_eq_false (by omega)
          obtain ⟨bl, ol, cl', he, -, -, hcl⟩ := (hsB9.out wr BR).open (by rintro rfl; simp at hy)
          obtain ⟨rfl, -, rfl⟩ := Value.slice.inj he
          clear he
          have hry := range_key (hcl k y hy)
          obtain ⟨gA, oA, cA', he, -, -, -⟩ := sR.open (by rintro rfl; simp at hf)
          obtain ⟨rfl, -, rfl⟩ := Value.slice.inj he
          clear he
          have hl9 : ∀ W, Below w9.heap.size w9 W → W.rangeAt bl (ol + k * 35) (keyV y.key) := fun W hW => by
            obtain ⟨b', o', c', he, -, -, hc⟩ := (hsB9.out W hW).open (by rintro rfl; simp at hy)
            obtain ⟨h1, -⟩ := Value.slice.inj he
            obtain ⟨rfl, rfl, -⟩ := Addr.mk.inj (Option.some.inj h1)
            exact range_key (hc k y hy)
          have hA9 : ∀ W, Sl W 35 encE (.slice (some ⟨gA, oA, none⟩) LA cA) A → W.rangeAt gA (oA + q * 35) (keyV y.key) := fun W hW => by
            obtain ⟨b', o', c', he, -, -, hc⟩ := hW.open (by rintro rfl; simp at hf)
            obtain ⟨h1, -⟩ := Value.slice.inj he
            obtain ⟨rfl, rfl, -⟩ := Addr.mk.inj (Option.some.inj h1)
            rw [← hq2]
            exact range_key (hc q f hf)
          obtain ⟨ky, hkye⟩ : ∃ x, y.key = x := ⟨_, rfl⟩
          rw [hkye] at hky hry cG hl9 hA9
          have hik : (Try.prog.info? 46).map (·.size) = some (keyV ky).length := by rw [keyV_len, hky]; kernel_rfl
          have hqk : ∀ W, (binOp .neq 46 (.agg (keyV ky).toArray) (.agg (keyV ky).toArray)).run Try.prog W = .ok (.bool false) W := fun W => by
            have h := run_neq_u8s (P := Try.prog) W (t := 46) (e := 5) (n := 32) Try.underlying46 Try.underlying5 (by kernel_rfl) (intsU ky) (intsU ky) (by unfold intsU; rw [List.length_map, hky]) (by unfold intsU; rw [List.length_map, hky])
            rw [← rowU_u8s] at h
            simp at h
            exact h
          clear hcl hkye hq hq2 hf hfy hy
          replace cG := hid cG
          replace hl9 := hid hl9
          replace hA9 := hid hA9
          replace sR := hid sR
          go_wp2_with (refine wpList_load_mid rfl 46 _ rfl bl (ol + k * 35) rfl (keyV ky) _ hry Try.underlying46 rfl hik ?_)
          refine cG.out.mono ?_
          rintro r w16 ⟨rfl, b16⟩
          have B16 : Below w9.heap.size w9 w16.drew := (BR.trans (b16.mono BR.size)).drewN 1
          have s16 := (Kept.drewN 0 w16 1).sl ((Kept.of_below b16 0).sl sR.out)
          have hst : (fun W => W.rangeAt gA (oA + q * 35) (keyV ky) ∧ W.rangeAt bl (ol + k * 35) (keyV ky)) w16.drew := ⟨hA9.out _ s16, hl9.out _ B16⟩
          clear cG b16 BR sR hry
          replace s16 := hid s16
          go_upto_region 29 with (fail)
          refine wp_region_held_drew (S := (fun W => W.rangeAt gA (oA + q * 35) (keyV ky) ∧ W.rangeAt bl (ol + k * 35) (keyV ky))) (by kernel_rfl) hst (fun hHeld => ?_)
          refine wpAnyH_take (i := 0) (oi := ⟨some 129, _, _, _, _, _⟩) (v := ?_) rfl (by kernel_rfl) (by kernel_rfl) (by kernel_rfl) (fun _ _ _ h => h) (Or.inl ⟨by rfl, ?_⟩) (by assumption) ?_
          rotate_left
          · intro w hSw; (try dsimp only at hSw); go_simp <;> with_reducible rfl
          try simp only [Act.put, List.setIfInBounds_toArray, List.set_cons_zero, List.set_cons_succ]
          refine wpAnyH_take (i := 1) (oi := ⟨some 130, _, _, _, _, _⟩) (v := ?_) rfl (by kernel_rfl) (by kernel_rfl) (by kernel_rfl) (fun _ _ _ h => h) (Or.inl ⟨by rfl, ?_⟩) (by assumption) ?_
          rotate_left
          · intro w hSw; (try dsimp only at hSw); go_simp <;> with_reducible rfl
          try simp only [Act.put, List.setIfInBounds_toArray, List.set_cons_zero, List.set_cons_succ]
          refine wpAnyH_take (i := 2) (oi := ⟨some 131, _, _, _, _, _⟩) (v := ?_) rfl (by kernel_rfl) (by kernel_rfl) (by kernel_rfl) (fun _ _ _ h => h) (Or.inl ⟨by rfl, ?_⟩) (by assumption) ?_
          rotate_left
          · intro w hSw; (try dsimp only at hSw); go_simp <;> with_reducible rfl
          try simp only [Act.put, List.setIfInBounds_toArray, List.set_cons_zero, List.set_cons_succ]
          refine wpAnyH_take (i := 3) (oi := ⟨some 132, _, _, _, _, _⟩) (v := ?_) rfl (by kernel_rfl) (by kernel_rfl) (by kernel_rfl) (fun _ _ _ h => h) (Or.inl ⟨by rfl, ?_⟩) (by assumption) ?_
          rotate_left
          · intro w hSw; (try dsimp only at hSw); go_simp <;> with_reducible rfl
          try simp only [Act.put, List.setIfInBounds_toArray, List.set_cons_zero, List.set_cons_succ]
          refine wpAnyH_take (i := 4) (oi := ⟨some 133, _, _, _, _, _⟩) (v := ?_) rfl (by kernel_rfl) (by kernel_rfl) (by kernel_rfl) (fun _ _ _ h => h) (Or.inl ⟨by rfl, ?_⟩) (by assumption) ?_
          rotate_left
          · intro w hSw; (try dsimp only at hSw); go_simp <;> with_reducible rfl
          try simp only [Act.put, List.setIfInBounds_toArray, List.set_cons_zero, List.set_cons_succ]
          try simp only [hqb1, hqb2, Bool.or_false]
          refine wpAnyH_take (i := 5) (oi := ⟨some 134, _, _, _, _, _⟩) (v := ?_) rfl (by kernel_rfl) (by kernel_rfl) (by kernel_rfl) (fun _ _ _ h => h) (Or.inl ⟨by rfl, ?_⟩) (by assumption) ?_
          rotate_left
          · intro w hSw; (try dsimp only at hSw); go_simp <;> with_reducible rfl
          try simp only [Act.put, List.setIfInBounds_toArray, List.set_cons_zero, List.set_cons_succ]
          refine wpAnyH_take (i := 6) (oi := ⟨some 135, _, _, _, _, _⟩) (v := ?_) rfl (by kernel_rfl) (by kernel_rfl) (by kernel_rfl) (fun _ _ _ h => h) (Or.inl ⟨by rfl, ?_⟩) (by assumption) ?_
          rotate_left
          · intro w hSw; (try dsimp only at hSw); go_simp <;> with_reducible rfl
          try simp only [Act.put, List.setIfInBounds_toArray, List.set_cons_zero, List.set_cons_succ]
          refine wpAnyH_take (i := 7) (oi := ⟨some 136, _, _, _, _, _⟩) (v := ?_) rfl (by kernel_rfl) (by kernel_rfl) (by kernel_rfl) (fun _ _ _ h => h) (Or.inl ⟨by rfl, ?_⟩) (by assumption) ?_
          rotate_left
          · intro w hSw; (try dsimp only at hSw); go_simp <;> with_reducible rfl
          try simp only [Act.put, List.setIfInBounds_toArray, List.set_cons_zero, List.set_cons_succ]
          refine wpAnyH_take (i := 8) (oi := ⟨some 137, _, _, _, _, _⟩) (v := ?_) rfl (by kernel_rfl) (by kernel_rfl) (by kernel_rfl) (fun _ _ _ h => h) (Or.inl ⟨by rfl, ?_⟩) (by assumption) ?_
          rotate_left
          · intro w hSw; (try dsimp only at hSw); go_simp <;> with_reducible rfl
          try simp only [Act.put, List.setIfInBounds_toArray, List.set_cons_zero, List.set_cons_succ]
          refine wpAnyH_take (i := 9) (oi := ⟨some 138, _, _, _, _, _⟩) (v := ?_) rfl (by kernel_rfl) (by kernel_rfl) (by kernel_rfl) (fun _ _ _ h => h) (Or.inl ⟨by rfl, ?_⟩) (by assumption) ?_
          rotate_left
          · intro w hSw; (try dsimp only at hSw); go_simp <;> with_reducible rfl
          try simp only [Act.put, List.setIfInBounds_toArray, List.set_cons_zero, List.set_cons_succ]
          refine wpAnyH_take (i := 10) (oi := ⟨some 139, _, _, _, _, _⟩) (v := ?_) rfl (by kernel_rfl) (by kernel_rfl) (by kernel_rfl) (fun _ _ _ h => h) (Or.inl ⟨by rfl, ?_⟩) (by assumption) ?_
          rotate_left
          · intro w hSw; (try dsimp only at hSw); go_simp <;> with_reducible rfl
          try simp only [Act.put, List.setIfInBounds_toArray, List.set_cons_zero, List.set_cons_succ]
          try simp only [hqb1, hqb2, Bool.or_false]
          refine wpAnyH_take (i := 11) (oi := ⟨some 140, _, _, _, _, _⟩) (v := ?_) rfl (by kernel_rfl) (by kernel_rfl) (by kernel_rfl) (fun _ _ _ h => h) (Or.inl ⟨by rfl, ?_⟩) (by assumption) ?_
          rotate_left
          · intro w hSw; (try dsimp only at hSw); go_simp <;> with_reducible rfl
          try simp only [Act.put, List.setIfInBounds_toArray, List.set_cons_zero, List.set_cons_succ]
          refine wpAnyH_take (i := 12) (oi := ⟨some 141, _, _, _, _, _⟩) (v := ?_) rfl (by kernel_rfl) (by kernel_rfl) (by kernel_rfl) (fun _ _ _ h => h) (Or.inl ⟨by rfl, ?_⟩) (by assumption) ?_
          rotate_left
          · intro w hSw; (try dsimp only at hSw); go_simp <;> with_reducible rfl
          try simp only [Act.put, List.setIfInBounds_toArray, List.set_cons_zero, List.set_cons_succ]
          refine wpAnyH_take (i := 13) (oi := ⟨some 142, _, _, _, _, _⟩) (v := ?_) rfl (by kernel_rfl) (by kernel_rfl) (by kernel_rfl) (fun _ _ _ h => h) (Or.inl ⟨by rfl, ?_⟩) (by assumption) ?_
          rotate_left
          · intro w hSw; (try dsimp only at hSw); go_simp <;> with_reducible rfl
          try simp only [Act.put, List.setIfInBounds_toArray, List.set_cons_zero, List.set_cons_succ]
          refine wpAnyH_take (i := 14) (oi := ⟨some 143, _, _, _, _, _⟩) (v := ?_) rfl (by kernel_rfl) (by kernel_rfl) (by kernel_rfl) (fun _ _ _ h => h) (Or.inl ⟨by rfl, ?_⟩) (by assumption) ?_
          rotate_left
          · intro w hSw; (try dsimp only at hSw); go_simp <;> with_reducible rfl
          try simp only [Act.put, List.setIfInBounds_toArray, List.set_cons_zero, List.set_cons_succ]
          refine wpAnyH_take (i := 15) (oi := ⟨some 144, _, _, _, _, _⟩) (v := ?_) rfl (by kernel_rfl) (by kernel_rfl) (by kernel_rfl) (fun _ _ _ h => h) (Or.inl ⟨by rfl, ?_⟩) (by assumption) ?_
          rotate_left
          · intro w hSw; (try dsimp only at hSw); go_simp <;> with_reducible rfl
          try simp only [Act.put, List.setIfInBounds_toArray, List.set_cons_zero, List.set_cons_succ]
          refine wpAnyH_take (i := 16) (oi := ⟨some 145, _, _, _, _, _⟩) (v := ?_) rfl (by kernel_rfl) (by kernel_rfl) (by kernel_rfl) (fun _ _ _ h => h) (Or.inl ⟨by rfl, ?_⟩) (by assumption) ?_
          rotate_left
          · intro w hSw; (try dsimp only at hSw); go_simp <;> with_reducible rfl
          try simp only [Act.put, List.setIfInBounds_toArray, List.set_cons_zero, List.set_cons_succ]
          refine wpAnyH_take (i := 17) (oi := ⟨some 146, _, _, _, _, _⟩) rfl (by kernel_rfl) (by kernel_rfl) (by kernel_rfl) (fun _ _ _ h => h) (yieldsIf_load_mid (by rfl) 46 _ rfl gA (oA + q * 35) rfl (keyV ky) _ (fun w h => h.1) Try.underlying46 rfl hik) (by assumption) ?_
          try simp only [Act.put, List.setIfInBounds_toArray, List.set_cons_zero, List.set_cons_succ]
          refine wpAnyH_take (i := 18) (oi := ⟨some 147, _, _, _, _, _⟩) (v := ?_) rfl (by kernel_rfl) (by kernel_rfl) (by kernel_rfl) (fun _ _ _ h => h) (Or.inl ⟨by rfl, ?_⟩) (by assumption) ?_
          rotate_left
          · intro w hSw; (try dsimp only at hSw); go_simp <;> with_reducible rfl
          try simp only [Act.put, List.setIfInBounds_toArray, List.set_cons_zero, List.set_cons_succ]
          refine wpAnyH_take (i := 19) (oi := ⟨some 148, _, _, _, _, _⟩) (v := ?_) rfl (by kernel_rfl) (by kernel_rfl) (by kernel_rfl) (fun _ _ _ h => h) (Or.inl ⟨by rfl, ?_⟩) (by assumption) ?_
          rotate_left
          · intro w hSw; (try dsimp only at hSw); go_simp <;> with_reducible rfl
          try simp only [Act.put, List.setIfInBounds_toArray, List.set_cons_zero, List.set_cons_succ]
          refine wpAnyH_take (i := 20) (oi := ⟨some 149, _, _, _, _, _⟩) (v := ?_) rfl (by kernel_rfl) (by kernel_rfl) (by kernel_rfl) (fun _ _ _ h => h) (Or.inl ⟨by rfl, ?_⟩) (by assumption) ?_
          rotate_left
          · intro w hSw; (try dsimp only at hSw); go_simp <;> with_reducible rfl
          try simp only [Act.put, List.setIfInBounds_toArray, List.set_cons_zero, List.set_cons_succ]
          refine wpAnyH_take (i := 21) (oi := ⟨some 150, _, _, _, _, _⟩) (v := ?_) rfl (by kernel_rfl) (by kernel_rfl) (by kernel_rfl) (fun _ _ _ h => h) (Or.inl ⟨by rfl, ?_⟩) (by assumption) ?_
          rotate_left
          · intro w hSw; (try dsimp only at hSw); go_simp <;> with_reducible rfl
          try simp only [Act.put, List.setIfInBounds_toArray, List.set_cons_zero, List.set_cons_succ]
          refine wpAnyH_take (i := 22) (oi := ⟨some 151, _, _, _, _, _⟩) rfl (by kernel_rfl) (by kernel_rfl) (by kernel_rfl) (fun _ _ _ h => h) (yieldsIf_load_mid (by rfl) 46 _ rfl bl (ol + k * 35) rfl (keyV ky) _ (fun w h => h.2) Try.underlying46 rfl hik) (by assumption) ?_
          try simp only [Act.put, List.setIfInBounds_toArray, List.set_cons_zero, List.set_cons_succ]
          refine wpAnyH_take (i := 23) (oi := ⟨some 152, _, _, _, _, _⟩) (v := ?_) rfl (by kernel_rfl) (by kernel_rfl) (by kernel_rfl) (fun _ _ _ h => h) (Or.inl ⟨by rfl, ?_⟩) (by assumption) ?_
          rotate_left
          · intro w hSw; (try dsimp only at hSw); go_simp <;> with_reducible rfl
          try simp only [Act.put, List.setIfInBounds_toArray, List.set_cons_zero, List.set_cons_succ]
          refine wpAnyH_take (i := 24) (oi := ⟨some 153, _, _, _, _, _⟩) (v := ?_) rfl (by kernel_rfl) (by kernel_rfl) (by kernel_rfl) (fun _ _ _ h => h) (Or.inl ⟨by rfl, ?_⟩) (by assumption) ?_
          rotate_left
          · intro w hSw; (try dsimp only at hSw); go_simp <;> with_reducible rfl
          try simp only [Act.put, List.setIfInBounds_toArray, List.set_cons_zero, List.set_cons_succ]
          refine wpAnyH_done (by kernel_rfl) ?_ _
          skip
          clear hHeld hst
          go_wp2_with (fail)
          refine ⟨?_, ?_⟩
          · first | exact ⟨k + 1, by omega, by go_num, s16.out, B16⟩ | ((repeat apply Exists.intro); refine ⟨?_, rfl⟩; exact ⟨k + 1, by omega, by go_num, s16.out, B16⟩)
          · simp [RowKit.intOf]; omega
        · obtain rfl : k = L := by omega
          have BN := Bt.trans (BR.mono (by have := Bt.size; omega))
          go_wp2_with (fail)
          refine (wakes_any _).mono ?_
          rintro r w4 ⟨rfl, b4⟩
          have B4 := BN.trans (b4.mono (by have := BN.size; omega))
          clear b4
          go_wp2_with (fail)
          go_ret
          have hn1 := hn₀.out
          subst hn1
          exact ⟨rfl, B4⟩
end Go.Proofs.Ytomgjapjeckokaa
namespace Go.Proofs.Ytomgjapjeckokaa
open Go.ChangeShapes Go.WideShapes Go.ChangeAt Go.RowKit

section
variable {H : Type} {enc : TypeId × Value → H} {P : Program}
/-- a slice of rows that came in, each read by its own law -/
theorem open_rows {α : Type} [Inhabited α] {ec : α → List Value} {Pr : α → Prop} {t e : TypeId} {n : Nat} {W : World} {base : Nat} {v : Value} {d : DataW H} {p : List MemPlace} (ht : P.underlying t = some (.slice e)) (hce : P.cellsOf e = n) (hn : 0 < n)
    (hone : ∀ (fuel : Nat) (cs : List Value) (x : DataW H × List MemPlace), cs.length = n → DataW.trod enc P W 0 (fun _ => true) true fuel e cs = some x → ∃ y : α, cs = ec y ∧ Pr y)
    (hok : Value.okWide P W .any base t v) (h : DataW.Trod enc P W 0 (fun _ => true) true t v d p) : ∃ l : List α, (∀ y ∈ l, Pr y) ∧ Sl W n ec v l := by
  obtain ⟨a0, len, cap, rfl⟩ := okWide_slice ht hok
  obtain ⟨fuel, hf⟩ := h
  rcases Go.Deep.open_slice ht hf with ⟨hcs, hx⟩ | ⟨a, len', cap', m, nf, D, Pl, hcs, -, hl, hm, hmm, hx, hcell⟩
  · simp [Value.cells] at hcs
    obtain ⟨rfl, rfl, rfl⟩ := hcs
    exact ⟨[], by simp, .inl ⟨rfl, rfl⟩⟩
  · simp [Value.cells] at hcs
    obtain ⟨rfl, rfl, rfl⟩ := hcs
    simp only [if_true] at hmm
    subst hmm
    rw [hce] at hcell
    have one : ∀ i, i < len → ∃ y : α, Pr y ∧ (i = 0 → a.spot = none) ∧ (a.spot = none → W.rangeAt a.block (a.off + i * n) (ec y)) := by
      intro i hi
      obtain ⟨cs', h1, h2⟩ := hcell i (by omega)
      obtain ⟨-, hlen, hc⟩ := World.cells?_some h1
      obtain ⟨y, hy, hp⟩ := hone _ cs' _ hlen h2
      refine ⟨y, hp, ?_, fun hsp j w hw => ?_⟩
      · intro hi0
        subst hi0
        have h4 := hc 0 hn
        rw [Nat.zero_mul, List.getElem?_eq_getElem (by omega)] at h4
        exact add_zero_spot h4
      · have hj : j < n := by
          have h9 := (List.getElem?_eq_some_iff.1 hw).1
          rw [← hy, hlen] at h9
          exact h9
        have h4 := hc j hj
        rw [hy, hw, add_two a hsp] at h4
        exact h4
    obtain ⟨g, hg⟩ := Go.Deep.choose_lt (α := α) one
    refine ⟨(List.range len).map g, fun x hx => ?_, ?_⟩
    · obtain ⟨i, hi, rfl⟩ := List.mem_map.1 hx
      exact (hg i (by simpa using hi)).1
    · have hs0 : (List.range len).map g ≠ [] → a.spot = none := fun hne => by
        have h0 : 0 < len := by
          cases len with
          | zero => simp at hne
          | succ k => omega
        exact (hg 0 h0).2.1 rfl
      refine .inr ⟨a, _, by simp, by simpa using hl, hm, hs0, fun i x hi => ?_⟩
      have hlt : i < len := by
        have := (List.getElem?_eq_some_iff.1 hi).1
        simpa using this
      have : x = g i := by
        simp [hlt] at hi
        exact hi.symm
      rw [this]
      exact (hg i hlt).2.2 (hs0 (by cases len with | zero => exact absurd hlt (Nat.not_lt_zero _) | succ k => simp))

/-- the cells of an array of bytes that came in -/
theorem bytes_of {W : World} {e u n : Nat} {fuel : Nat} {cs : List Value} {x : DataW H × List MemPlace} (he : P.underlying e = some (.array n u)) (hu : P.underlying u = some (.int .u8)) (hcu : P.cellsOf u = 1) (hcl : cs.length = n)
    (h : DataW.trod enc P W 0 (fun _ => true) true fuel e cs = some x) : ∃ l : List UInt8, cs = keyV l ∧ l.length = n := by
  obtain ⟨xs, mm, -, -, hl2, hl3, hall⟩ := DataW.trod_array he h
  rw [hcu] at hall
  have each : ∀ j, j < n → ∃ y : UInt8, cs[j]? = some (.int .u8 (y.toNat : Int)) := by
    intro j hj
    have h3 := hall j hj
    rw [List.getElem?_eq_getElem (by rw [hl3]; exact hj)] at h3
    obtain ⟨y, hy1, -, hy2⟩ := DataW.trod_int hu h3
    have hy3 : 0 ≤ y ∧ y ≤ 255 := by simpa [Lit.wf, show IntKind.u8.min = 0 from rfl, show IntKind.u8.max = 255 from rfl] using hy2
    refine ⟨UInt8.ofNat y.toNat, ?_⟩
    have h4 : ((cs.drop (j * 1)).take 1)[0]? = some (.int .u8 y) := by rw [hy1]; rfl
    have h5 : cs[j]? = some (.int .u8 y) := by simpa using h4
    rw [h5, UInt8.toNat_ofNat']
    congr 2
    omega
  obtain ⟨f, hf2⟩ := Go.Deep.choose_lt (α := UInt8) each
  refine ⟨(List.range n).map f, List.ext_getElem? fun j => ?_, by simp⟩
  by_cases hj : j < n
  · rw [hf2 j hj]
    unfold keyV
    rw [List.map_map, List.getElem?_map, List.getElem?_range hj]; rfl
  · rw [List.getElem?_eq_none (by omega), List.getElem?_eq_none (by unfold keyV; simp; omega)]
end
instance : Inhabited Ent := ⟨⟨[], 0, 0, 0⟩⟩
theorem wfI {n : Int} (h : (Lit.int .i64 n).wf = true) : -9223372036854775808 ≤ n ∧ n ≤ 9223372036854775807 := by
  simpa [Lit.wf, show IntKind.i64.min = -9223372036854775808 from rfl, show IntKind.i64.max = 9223372036854775807 from rfl] using h
set_option maxRecDepth 100000 in
theorem ent_of {H : Type} {enc : TypeId × Value → H} {W : World} {fuel : Nat} {cs : List Value} {x : DataW H × List MemPlace} (hcs : cs.length = 35) (h : DataW.trod enc Try.prog W 0 (fun _ => true) true fuel 48 cs = some x) : ∃ e : Ent, cs = encE e ∧ intOkE e := by
  have hC1 : Try.prog.cellsOf 3 = 1 := by kernel_rfl
  have hC2 : Try.prog.cellsOf 46 = 32 := by kernel_rfl
  obtain ⟨xs, n, -, -, -, hlen, hff⟩ := DataW.trod_struct Try.underlying48 h
  match xs, hlen with
  | [y0, y1, y2, y3], _ =>
  have g0 : DataW.trod enc Try.prog W 0 (fun _ => true) true n 46 (List.take (Try.prog.cellsOf 46) (List.drop 0 cs)) = some y0 := hff 0 _ rfl
  have g1 : DataW.trod enc Try.prog W 0 (fun _ => true) true n 3 (List.take (Try.prog.cellsOf 3) (List.drop 32 cs)) = some y1 := hff 1 _ rfl
  have g2 : DataW.trod enc Try.prog W 0 (fun _ => true) true n 3 (List.take (Try.prog.cellsOf 3) (List.drop 33 cs)) = some y2 := hff 2 _ rfl
  have g3 : DataW.trod enc Try.prog W 0 (fun _ => true) true n 3 (List.take (Try.prog.cellsOf 3) (List.drop 34 cs)) = some y3 := hff 3 _ rfl
  rw [hC2] at g0
  rw [hC1] at g1 g2 g3
  obtain ⟨k, hk, hkl⟩ := bytes_of Try.underlying46 Try.underlying5 (by kernel_rfl) (by simp; omega) g0
  obtain ⟨n1, e1, -, w1⟩ := DataW.trod_int Try.underlying3 g1
  obtain ⟨n2, e2, -, w2⟩ := DataW.trod_int Try.underlying3 g2
  obtain ⟨n3, e3, -, w3⟩ := DataW.trod_int Try.underlying3 g3
  refine ⟨⟨k, n1, n2, n3⟩, ?_, hkl, (wfI w1).1, (wfI w1).2, (wfI w2).1, (wfI w2).2⟩
  have d3 : cs.drop 34 = [.int .i64 n3] := by
    rw [← e3, List.take_of_length_le (by simp; omega)]
  have d2 : cs.drop 33 = [.int .i64 n2, .int .i64 n3] := by
    have h9 := List.take_append_drop 1 (cs.drop 33)
    rw [e2, List.drop_drop, d3] at h9
    exact h9.symm
  have d1 : cs.drop 32 = [.int .i64 n1, .int .i64 n2, .int .i64 n3] := by
    have h9 := List.take_append_drop 1 (cs.drop 32)
    rw [e1, List.drop_drop, d2] at h9
    exact h9.symm
  have h9 := List.take_append_drop 32 cs
  rw [List.drop_zero] at hk
  rw [hk, d1] at h9
  exact h9.symm
set_option maxRecDepth 100000 in
theorem open_ents {H : Type} {enc : TypeId × Value → H} {W : World} {base : Nat} {v : Value} {d : DataW H} {p : List MemPlace} (hok : Value.okWide Try.prog W .any base 22 v) (h : DataW.Trod enc Try.prog W 0 (fun _ => true) true 22 v d p) :
    ∃ l : List Ent, (∀ e ∈ l, intOkE e) ∧ Sl W 35 encE v l :=
  open_rows Try.underlying22 (by kernel_rfl) (by decide) (fun _ _ _ hl hx => ent_of hl hx) hok h
set_option maxRecDepth 100000 in
theorem open_ent {H : Type} {enc : TypeId × Value → H} {W : World} {r : Reach} {b0 : Nat} {v : Value} {d : DataW H} {p : List MemPlace} (hv : Value.okWide Try.prog W r b0 48 v) (h : DataW.Trod enc Try.prog W 0 (fun _ => true) true 48 v d p) :
    ∃ e : Ent, v = .agg (rowE e) ∧ intOkE e := by
  have hC : Try.prog.cellsOf 48 = 35 := by kernel_rfl
  obtain ⟨cs, rfl, hsz⟩ := okWide_struct Try.underlying48 hv
  obtain ⟨fuel, hf⟩ := h
  obtain ⟨e, he, ho⟩ := ent_of (by rw [← hC, ← hsz]; simp [Value.cells]) hf
  refine ⟨e, ?_, ho⟩
  unfold rowE
  rw [← he]
  simp [Value.cells]
end Go.Proofs.Ytomgjapjeckokaa
namespace Go.Proofs.Ytomgjapjeckokaa
open Go.ChangeShapes Go.WideShapes Go.ChangeAt Go.RowKit

theorem u8_of {H : Type} {enc : TypeId × Value → H} {W : World} {fuel : Nat} {cs : List Value} {x : DataW H × List MemPlace} (h : DataW.trod enc Try.prog W 0 (fun _ => true) true fuel 5 cs = some x) : ∃ y : UInt8, cs = encU y ∧ True := by
  obtain ⟨y, e1, -, w1⟩ := DataW.trod_int Try.underlying5 h
  have hy3 : 0 ≤ y ∧ y ≤ 255 := by simpa [Lit.wf, show IntKind.u8.min = 0 from rfl, show IntKind.u8.max = 255 from rfl] using w1
  refine ⟨UInt8.ofNat y.toNat, ?_, trivial⟩
  rw [e1]
  unfold encU
  rw [UInt8.toNat_ofNat']
  congr 2
  omega
set_option maxRecDepth 100000 in
theorem open_u8s {H : Type} {enc : TypeId × Value → H} {W : World} {base : Nat} {v : Value} {d : DataW H} {p : List MemPlace} (hok : Value.okWide Try.prog W .any base 54 v) (h : DataW.Trod enc Try.prog W 0 (fun _ => true) true 54 v d p) :
    ∃ l : List UInt8, (∀ e ∈ l, True) ∧ Sl W 1 encU v l :=
  open_rows Try.underlying54 (by kernel_rfl) (by decide) (fun _ _ _ _ hx => u8_of hx) hok h
set_option maxRecDepth 100000 in
theorem open_blocks {H : Type} {enc : TypeId × Value → H} {W : World} {base : Nat} {v : Value} {d : DataW H} {p : List MemPlace} (hok : Value.okWide Try.prog W .any base 24 v) (h : DataW.Trod enc Try.prog W 0 (fun _ => true) true 24 v d p) :
    ∃ l : List (List UInt8), (∀ e ∈ l, e.length = 128) ∧ Sl W 128 keyV v l :=
  open_rows Try.underlying24 (by kernel_rfl) (by decide) (fun _ _ _ hl hx => bytes_of Try.underlying43 Try.underlying5 (by kernel_rfl) hl hx) hok h
end Go.Proofs.Ytomgjapjeckokaa
namespace Go.Proofs.Ytomgjapjeckokaa.indexOrder
open Go.ChangeShapes Go.WideShapes Go.ChangeAt Go.RowKit

theorem own : ownKnob Try.prog.godebug = none := by kernel_rfl
theorem laidOut : laidOutB Try.prog = true := by kernel_rfl
theorem reads : ∀ t ∈ Try.f6.params.toList, Try.prog.readableRec t = true ∧ t < Try.prog.types.size := by
  rw [Try.params6]
  intro t ht
  simp at ht
  rcases ht with rfl | rfl
  all_goals exact ⟨by kernel_rfl, of_decide_eq_true (by kernel_rfl)⟩

set_option maxRecDepth 100000 in
theorem lifted (os : Os) (started : os.Started) (H : Type) (enc : TypeId × Value → H) :
    ReturnsInHanded {} Try.checked os 6 .any (Rows.indexOrderSpec.pre6 enc Try.prog Try.f6 Rows.indexOrderRow.domain false) (Rows.indexOrderSpec.post enc Try.prog Try.f6 false true false false) := by
  refine returnsInHanded_of_change (C := Try.checked) own started (by kernel_rfl) Try.func6
    (ChangeSpec.witness6 (enc := enc) (C := Try.checked) false ⟨#[], #[.slice none 0 0, .slice none 0 0], []⟩ 8 (by kernel_rfl) (by kernel_rfl) (by kernel_rfl) (by kernel_rfl)) ?_
  intro W base args ds gs before hval0 hW hcnd _
  have hval : ∀ (j : Nat) t v, Try.f6.params[j]? = some t → args[j]? = some v → Value.okWide Try.prog W .any base t v := hval0
  have hW' := hW
  obtain ⟨p, q, hA0, hV, rfl, hfz, hnd⟩ := hW
  have hA : DataW.TrodAll enc Try.prog W 0 (fun _ => true) true Try.f6.params.toList args.toList ds p := hA0
  rw [Try.params6] at hA hval
  obtain ⟨v0, vs0, d0, ds0, p0, q0, hargs, rfl, rfl, h0, r0⟩ := trodAll_cons hA
  obtain ⟨v1, vs1, d1, ds1, p1, q1, rfl, rfl, rfl, h1, r1⟩ := trodAll_cons r0
  obtain ⟨rfl, rfl, rfl⟩ := trodAll_nil r1
  obtain rfl : args = #[v0, v1] := by cases args; simp_all
  obtain ⟨rfl, rfl⟩ := trodVars_none hV
  obtain ⟨l0, b0, s0⟩ := open_ents (hval 0 22 v0 rfl rfl) h0
  obtain ⟨l1, b1, s1⟩ := open_u8s (hval 1 54 v1 rfl rfl) h1
  clear hA0 hval0
  refine (IndexOrder_any l0 l1 v0 v1 W s0 s1 (fun e he => (b0 e he).1)).mono fun e W' ⟨he, hB⟩ => ?_
  subst he
  exact ⟨_, rfl, law_post rfl hW' rfl rfl Try.underlying4 laidOut reads hB⟩

theorem holds : Rows.IndexOrderSaid :=
  OpenClaim.holds_of_wide 6 Try.f6 rfl rfl rfl rfl rfl rfl rfl ⟨rfl, rfl, rfl, rfl, rfl⟩ rfl rfl rfl rfl rfl (by kernel_rfl) Try.func6 (by kernel_rfl)
    (of_decide_eq_true (by kernel_rfl)) (by unfold Func.isWrapper; first | (rw [if_pos (by decide +kernel)]; kernel_rfl) | (rw [if_neg (by decide +kernel)]; exact ⟨rfl, rfl⟩))
    (fun os started H enc _ => lifted os started H enc)
end Go.Proofs.Ytomgjapjeckokaa.indexOrder
