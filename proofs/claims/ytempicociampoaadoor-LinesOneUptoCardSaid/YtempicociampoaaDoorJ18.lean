/- A drawn region inside of a fence, with a condition that holds behind every act: loads whose cells it names may be taken first. Long rows inside of a fence: loaded, stored, laid as a literal of one member. Plain laws of lines: the text of a line's pieces is the text of its items. -/
import Derived.Test.YtempicociampoaaDoorJ7
import Derived.OrdersHeld
import Derived.Deep.RegionHeld3
import Derived.OrdersIn
import Derived.Test.YtempicociampoaaDoorJ12
import Derived.Great.BuildSlice
import Derived.Test.YtempicociampoaaDoorJ2
namespace Go.Proofs.YtempicociampoaaDoor
open Go.RowKit

section
variable {F : Fence} {n : Nat} {P : Program} {ops : Array Oper} {Q : Exit → Act → World → Prop} {md : Region.Mode} {S : World → Prop}

/-- it yields in every world that meets S, and is about to make no call -/
def YieldsHF (P : Program) (ops : Array Oper) (S : World → Prop) (o : Oper) (v : Value) (a : Act) : Prop := YieldsIf P ops S o v a ∧ ∀ w, o.about P w a.eval = none

theorem YieldsHF.op {i : Nat} {o : Oper} {v : Value} {a : Act} (hro : F.round = none) (hi : ops[i]? = some o) (hy : YieldsHF P ops S o v a) {K : Act → World → Prop} {w : World} (hS : S w) (h : K (a.put o.dst v) w) : wpOpIn F n P ops Q i K a w := by
  have hab : ∀ f, o.about P w a.eval = some f → F.fn f := fun f hf => by rw [hy.2 w] at hf; cases hf
  unfold wpOpIn
  simp only [hi]
  rcases hy.1 with ⟨hw, hv⟩ | ⟨hw, rfl⟩
  · simp only [hw, if_true, Oper.wpIn, hro, Oper.semAt_none, hv w hS, Oper.uponIn]
    exact ⟨hab, h⟩
  · simp only [hw, Bool.false_eq_true, if_false]
    exact ⟨hab, h⟩
theorem YieldsHF.same {o : Oper} {v : Value} {a a' : Act} (hy : YieldsHF P ops S o v a) (he : execOp a'.eval o = execOp a.eval o) (hw : Region.wanted o (yielded ops a'.tmps) = Region.wanted o (yielded ops a.tmps))
    (hb : ∀ w, o.about P w a'.eval = o.about P w a.eval) : YieldsHF P ops S o v a' :=
  ⟨hy.1.of_same he hw, fun w => by rw [hb w]; exact hy.2 w⟩

/-- an operation apart from oi does the same whether oi's value lies there or not -/
theorem opIn_putH {j : Nat} {oi oj : Oper} {v : Value} (hro : F.round = none) (hj : ops[j]? = some oj) (hap : oi.apart ops oj = true) (hsi : ∀ cs b, oi.op ≠ .select cs b) (hsj : ∀ cs b, oj.op ≠ .select cs b)
    (hQ : ∀ c a w, Q (.panic c) (a.put oi.dst v) w → Q (.panic c) a w) {K : Act → World → Prop} {a : Act} {w : World} (hy : YieldsHF P ops S oi v a) (h : wpOpIn F n P ops Q j K (a.put oi.dst v) w) :
    wpOpIn F n P ops Q j (fun a' w' => YieldsHF P ops S oi v a' ∧ K (a'.put oi.dst v) w') a w := by
  obtain ⟨h1, h2, h3⟩ := Oper.apart_spec hap
  have keep : ∀ (a : Act), YieldsHF P ops S oi v a → ∀ u, YieldsHF P ops S oi v (a.put oj.dst u) := fun a hy u => hy.same (execOp_put oi hsi a oj.dst u h3) (wanted_put oi a oj.dst u h3) fun w => about_put oi w a oj.dst u h3
  have keepD : ∀ d, YieldsHF P ops S oi v { a with defers := d :: a.defers } := fun d => hy.same rfl rfl fun _ => rfl
  unfold wpOpIn at *
  simp only [hj] at *
  rw [wanted_put oj a oi.dst v h1, about_put oj w a oi.dst v h1] at h
  split
  · rename_i hw
    simp only [hw, if_true] at h
    unfold Oper.wpIn at *
    rw [about_put oj w a oi.dst v h1] at h
    refine ⟨h.1, ?_⟩
    replace h := h.2
    rw [hro, Oper.semAt_none, execOp_put oj hsj a oi.dst v h1] at h
    rw [hro, Oper.semAt_none]
    generalize (execOp a.eval oj).run P w = r at *
    cases r with
    | ok x w' =>
      cases x <;> simp only [Oper.uponIn] at h ⊢
      case value u => exact ⟨keep a hy u, by rw [← Act.put_comm a v u h2]; exact h⟩
      case skip => exact ⟨keep a hy _, by rw [← Act.put_comm a v undef h2]; exact h⟩
      case defer d =>
        refine ⟨keep _ (keepD d) _, ?_⟩
        rw [← Act.put_comm _ v undef h2, ← Act.put_defers]
        exact h
      case enter f args =>
        refine ⟨h.1, CallsIn.mono h.2 fun e w'' he => ?_⟩
        cases e with
        | returned u => exact ⟨keep a hy u, by rw [← Act.put_comm a v u h2]; exact he⟩
        | panicked c => exact hQ _ _ _ he
        | outgrown => exact he
      case row row args => exact ⟨h.1, RowsIn.mono h.2 fun u w'' he => ⟨keep a hy u, by rw [← Act.put_comm a v u h2]; exact he⟩⟩
      case round l f tmps assign body =>
        refine ⟨h.1, RoundIn.mono h.2 fun e w'' he => ?_⟩
        cases e with
        | returned u => exact ⟨keep a hy u, by rw [← Act.put_comm a v u h2]; exact he⟩
        | panicked c => exact hQ _ _ _ he
        | outgrown => exact he
    | halt x w' =>
      cases x <;> simp only [Oper.uponIn] at h ⊢
      case panic u => exact hQ _ _ _ h
  · rename_i hw
    simp only [hw] at h
    exact ⟨h.1, keep a hy _, by rw [← Act.put_comm a v undef h2]; exact h.2⟩

/-- whatever order is picked; S behind each act -/
def wpAnyInH (F : Fence) (n : Nat) (P : Program) (md : Region.Mode) (ops : Array Oper) (Q : Exit → Act → World → Prop) (S : World → Prop) : Nat → Array Bool → Act → World → Prop
  | 0, listed, a, w => Region.ready md ops listed = [] ∧ Q .normal a w
  | fuel + 1, listed, a, w => (Region.ready md ops listed = [] → Q .normal a w) ∧
    ∀ i ∈ Region.ready md ops listed, wpOpIn F n P ops Q i (fun a' w' => S w' ∧ wpAnyInH F n P md ops Q S fuel (listed.setIfInBounds i true) a' w') a w
theorem anyIn_of_held : ∀ (fuel : Nat) (listed : Array Bool) (a : Act) (w : World), wpAnyInH F n P md ops Q S fuel listed a w → wpAnyIn F n P md ops Q fuel listed a w
  | 0, _, _, _, h => h
  | fuel + 1, _, _, _, h => ⟨h.1, fun i hi => wpOpIn_mono (fun a' w' h' => anyIn_of_held fuel _ a' w' h'.2) (h.2 i hi)⟩

theorem wpAnyInH_first {i : Nat} {oi : Oper} {v : Value} (hro : F.round = none) (hi : ops[i]? = some oi) (hsel : ∀ (j : Nat) (o : Oper) cs b, ops[j]? = some o → o.op ≠ .select cs b)
    (hQ : ∀ c a w, Q (.panic c) (a.put oi.dst v) w → Q (.panic c) a w) : ∀ (fuel : Nat) (listed : Array Bool) (a : Act) (w : World),
      (∀ j oj, ops[j]? = some oj → j ≠ i → listed.getD j true = false → (∀ e ∈ oj.after, Region.binds md e = true → e.on ≠ i) → oi.apart ops oj = true) →
      i ∈ Region.ready md ops listed → YieldsHF P ops S oi v a → S w → wpAnyInH F n P md ops Q S fuel (listed.setIfInBounds i true) (a.put oi.dst v) w → wpAnyInH F n P md ops Q S (fuel + 1) listed a w := by
  intro fuel
  induction fuel with
  | zero =>
    intro listed a w _ hr hy hS H
    refine ⟨fun h => (by rw [h] at hr; cases hr), fun j hj => ?_⟩
    by_cases hji : j = i
    · subst hji; exact hy.op hro hi hS ⟨hS, H⟩
    · have := ready_mono hj hji
      rw [H.1] at this
      cases this
  | succ fuel ih =>
    intro listed a w hfree hr hy hS H
    refine ⟨fun h => (by rw [h] at hr; cases hr), fun j hj => ?_⟩
    by_cases hji : j = i
    · subst hji; exact hy.op hro hi hS ⟨hS, H⟩
    · have h1 := H.2 j (ready_mono hj hji)
      obtain ⟨hjun, oj, hoj, hall⟩ := mem_ready.1 hj
      have hnot : ∀ e ∈ oj.after, Region.binds md e = true → e.on ≠ i := fun e he hb heq => by
        have h1 := hall e he hb
        have h0 := (mem_ready.1 hr).1
        rw [heq] at h1
        rcases Nat.lt_or_ge i listed.size with h' | h'
        · simp [h'] at h0 h1; rw [h0] at h1; cases h1
        · simp [Array.getElem?_eq_none h'] at h1
      have h2 := opIn_putH hro hoj (hfree j oj hoj hji hjun hnot) (fun cs b => hsel i oi cs b hi) (fun cs b => hsel j oj cs b hoj) hQ hy h1
      have hfree' : ∀ k ok, ops[k]? = some ok → k ≠ i → (listed.setIfInBounds j true).getD k true = false → (∀ e ∈ ok.after, Region.binds md e = true → e.on ≠ i) → oi.apart ops ok = true := fun k ok hk hki hun hno => by
        refine hfree k ok hk hki ?_ hno
        by_cases hjk : j = k
        · subst hjk; exact hjun
        · rw [getD_set_ne true hjk] at hun; exact hun
      refine wpOpIn_mono (fun a' w' h3 => ⟨h3.2.1, ih (listed.setIfInBounds j true) a' w' hfree' (ready_mono hr (Ne.symm hji)) h3.1 h3.2.1 ?_⟩) h2
      rw [Array.setIfInBounds_comm _ _ hji]
      exact h3.2.2

theorem wpAnyInH_take {i : Nat} {oi : Oper} {v : Value} {fuel : Nat} {listed : Array Bool} {a : Act} {w : World} (hro : F.round = none) (hi : ops[i]? = some oi)
    (hs : Region.noSelect ops = true) (hf : Region.free md ops listed i = true) (hr : (Region.ready md ops listed).contains i = true)
    (hQ : ∀ c a w, Q (.panic c) (a.put oi.dst v) w → Q (.panic c) a w) (hy : YieldsIf P ops S oi v a) (hab : ∀ w, oi.about P w a.eval = none) (hS : S w)
    (h : wpAnyInH F n P md ops Q S fuel (listed.setIfInBounds i true) (a.put oi.dst v) w) : wpAnyInH F n P md ops Q S (fuel + 1) listed a w :=
  wpAnyInH_first hro hi (Region.noSelect_spec hs) hQ fuel listed a w (Region.free_spec hi hf) (by simpa using hr) ⟨hy, hab⟩ hS h
theorem wpAnyInH_done {listed : Array Bool} {a : Act} {w : World} (hr : Region.ready md ops listed = []) (h : Q .normal a w) : ∀ fuel, wpAnyInH F n P md ops Q S fuel listed a w
  | 0 => ⟨hr, h⟩
  | _ + 1 => ⟨fun _ => h, by rw [hr]; simp⟩
def AllReadyInH (F : Fence) (n : Nat) (P : Program) (md : Region.Mode) (ops : Array Oper) (Q : Exit → Act → World → Prop) (S : World → Prop) (fuel : Nat) (listed : Array Bool) (a : Act) (w : World) (rs : List Nat) : Prop :=
  ∀ i ∈ rs, wpOpIn F n P ops Q i (fun a' w' => S w' ∧ wpAnyInH F n P md ops Q S fuel (listed.setIfInBounds i true) a' w') a w
theorem AllReadyInH.nil {fuel : Nat} {listed : Array Bool} {a : Act} {w : World} : AllReadyInH F n P md ops Q S fuel listed a w [] := fun _ h => by cases h
theorem AllReadyInH.cons {fuel : Nat} {listed : Array Bool} {a : Act} {w : World} {i : Nat} {o : Oper} {rs : List Nat} (ho : ops[i]? = some o)
    (h : ∀ K' : Act → World → Prop, Shut (∀ a w, S w → (S w → wpAnyInH F n P md ops Q S fuel (listed.setIfInBounds i true) a w) → K' a w) → if Region.wanted o (yielded ops a.tmps) = true then Oper.wpIn F n P o a w K' Q else (∀ f, o.about P w a.eval = some f → F.fn f) ∧ K' (a.put o.dst undef) w)
    (hs : AllReadyInH F n P md ops Q S fuel listed a w rs) : AllReadyInH F n P md ops Q S fuel listed a w (i :: rs) := fun j hj => by
  rcases List.mem_cons.1 hj with rfl | hj
  · exact wpOpIn_step ho (fun K' hK => h K' (fun a w hS hW => hK a w ⟨hS, hW hS⟩))
  · exact hs j hj
theorem wpAnyInH_ready {rs : List Nat} {fuel : Nat} {listed : Array Bool} {a : Act} {w : World} (hr : Region.ready md ops listed = rs) (hne : rs ≠ []) (h : AllReadyInH F n P md ops Q S fuel listed a w rs) : wpAnyInH F n P md ops Q S (fuel + 1) listed a w :=
  ⟨fun h0 => absurd (hr ▸ h0) hne, hr ▸ h⟩
/-- the beginning, inside of a fence that is in no round -/
theorem region_heldIn {id : Nat} {a : Act} {w : World} (hm : P.follows .mixedOrders = true) (hS : S w.drew) (h : S w.drew → wpAnyInH F n P .any ops Q S ops.size (Array.replicate ops.size false) a w.drew) : (Code.region id ops true).wpIn F n P Q a w :=
  wpIn_region_any hm (anyIn_of_held _ _ _ _ (h hS))
end
end Go.Proofs.YtempicociampoaaDoor
namespace Go.Proofs.YtempicociampoaaDoor
open Go.RowKit

section
variable {F : Fence} {n : Nat} {P : Program} {ops : Array Oper} {rest : List Oper} {o : Oper} {a : Act} {w : World} {K : Act → World → Prop} {Q : Exit → Act → World → Prop}
theorem wpIn_skip (hnd : ∀ c, o.op ≠ .defer c) (hab : o.about P w a.eval = none) (w' : World) (hr : (execOp a.eval o).run P w = .ok .skip w') (h : K (a.put o.dst undef) w') : o.wpIn F n P a w K Q := by
  unfold Oper.wpIn
  refine ⟨fun f hf => (by rw [hab] at hf; cases hf), ?_⟩
  rw [Oper.semAt_plain F _ _ hnd, hr]
  exact h
theorem wpIn_store_mid (ty : TypeId) (x y : Operand) (ho : o.op = .store ty x y) (b i : Nat) (cells : Array Value) (hx : a.eval x = .pointer (some ⟨b, i, none⟩)) (hy : a.eval y = .agg cells)
    (ht : w.there b i cells.size) (hi : (P.info? ty).map (·.size) = some cells.size) (h1 : cells.all (·.oneCell') = true) (h : K (a.put o.dst undef) (w.setCells b i cells.toList)) : o.wpIn F n P a w K Q :=
  wpIn_skip (by rw [ho]; intro c hc; cases hc) (by simp [Oper.about, ho]) _ (by
    unfold execOp
    simp only [ho, hx, hy, Instr.storeAt, Instr.sureAddr, Sem.run_bind, Sem.run_pure, Result.andThen_ok, run_storeVar_mid w b i ty cells ht hi h1]) h
end
end Go.Proofs.YtempicociampoaaDoor
namespace Go.Proofs.YtempicociampoaaDoor
open Go.RowKit

section
variable {tw : ByteArray → Int}
/-- what an item lays in a text -/
def txO (x : It) : List UInt8 := if x.kind = 1 then x.text.data.toList else if x.kind = 2 then [32] else []
def txL (l : List It) : List UInt8 := l.flatMap txO
theorem txL_snoc (l : List It) (x : It) : txL (l ++ [x]) = txL l ++ txO x := by simp [txL]
/-- a glue: a space or a tie; a pen; a box of nothing -/
def glW (x : It) : Prop := x.kind = 2 ∧ x.w = 4 ∧ ((x.y = 2 ∧ x.z = 1) ∨ (x.y = 0 ∧ x.z = 0))
def peX (x : It) : Prop := x.kind = 3 ∧ x.y = 0 ∧ x.z = 0
def emB (x : It) : Prop := x.kind = 1 ∧ x.text.size = 0 ∧ x.y = 0 ∧ x.z = 0
/-- items of a line: how far they have come (nothing yet; behind a box; behind a glue) -/
inductive Lw (tw : ByteArray → Int) : List It → Option Bool → Prop
  | nil : Lw tw [] none
  | box {m st x} : Lw tw m st → tb tw x → Lw tw (m ++ [x]) (some false)
  | emp {m x} : Lw tw m none → emB x → Lw tw (m ++ [x]) none
  | glue {m x} : Lw tw m (some false) → glW x → Lw tw (m ++ [x]) (some true)
  | pen {m st x} : Lw tw m st → peX x → Lw tw (m ++ [x]) st
theorem lineT_snoc (ps : List (Int × ByteArray)) (p : Int × ByteArray) : lineT tw (ps ++ [p]) = lineT tw ps ++ (if 0 < ps.length ∧ endW tw ps ≠ p.1 then [32] else []) ++ p.2.data.toList := by
  unfold lineT
  rw [List.length_append, List.length_singleton, lineTo]
  have h1 : lineTo tw (ps ++ [p]) ps.length = lineTo tw ps ps.length := by
    have h9 := lineTo_take (tw := tw) (ps ++ [p]) ps.length ps.length (Nat.le_refl _)
    rw [List.take_left] at h9
    exact h9.symm
  have h2 : (ps ++ [p]).getD ps.length pc0 = p := by rw [List.getD_eq_getElem?_getD, List.getElem?_append_right (Nat.le_refl _), Nat.sub_self]; rfl
  have h3 : gapK tw (ps ++ [p]) ps.length = true ↔ (0 < ps.length ∧ endW tw ps ≠ p.1) := by
    unfold gapK
    rw [List.take_left, h2]
    simp
  rw [h1, h2]
  by_cases h : 0 < ps.length ∧ endW tw ps ≠ p.1
  · rw [if_pos h, if_pos (h3.2 h)]
  · rw [if_neg h, if_neg (fun h9 => h (h3.1 h9))]
theorem endW_snoc (ps : List (Int × ByteArray)) (p : Int × ByteArray) : endW tw (ps ++ [p]) = p.1 + tw p.2 := by
  unfold endW; rw [List.getLast?_append]; rfl
theorem moved_same {d : Int} {s a b : Sm} (h1 : b.y = a.y) (h2 : b.z = a.z) : moved d s b = moved d s a := by unfold moved; rw [h1, h2]
theorem cur_tb {d : Int} {s a : Sm} {x : It} (h : tb tw x) : cur d s (a.step x) = cur d s a + x.w := by
  obtain ⟨k, -, -, b, e1, e2⟩ := h
  have e : a.step x = ⟨a.w + x.w, a.y, a.z⟩ := by
    unfold Sm.step; rw [if_neg (by omega), plain_eq b.1 b.2, e1, e2, show plain 0 = 0 by decide]; simp
  rw [e]
  have := moved_same (d := d) (s := s) (a := a) (b := ⟨a.w + x.w, a.y, a.z⟩) rfl rfl
  unfold cur; rw [this]; dsimp only; omega
theorem cur_pen {d : Int} {s a : Sm} {x : It} (h : peX x) : cur d s (a.step x) = cur d s a := by
  obtain ⟨k, e1, e2⟩ := h
  have e : a.step x = ⟨a.w, a.y, a.z⟩ := by
    unfold Sm.step; rw [if_pos k, e1, e2, show plain 0 = 0 by decide]; simp
  rw [e]
theorem cur_glue {d : Int} {s a : Sm} {x : It} (h : glW x) (h2 : 0 ≤ s.y) (h3 : 0 ≤ s.z) (h4 : 0 ≤ a.y) (h5 : 0 ≤ a.z) : cur d s a + 3 ≤ cur d s (a.step x) := by
  obtain ⟨k, e0, ⟨e1, e2⟩ | ⟨e1, e2⟩⟩ := h
  · have e : a.step x = ⟨a.w + 4, a.y + 2, a.z + 1⟩ := by
      unfold Sm.step; rw [if_neg (by omega), e0, e1, e2, show plain 4 = 4 by decide, show plain 2 = 2 by decide, show plain 1 = 1 by decide]
    rw [e]
    unfold cur moved
    dsimp only
    split
    · rename_i hd
      have := spread_mono (b := a.y + 2) hd h4 (by omega) h2
      omega
    · have := spread_one (m := min (-d) s.z) (a := a.z) (z := s.z) (by omega) (by omega) h5
      omega
  · have e : a.step x = ⟨a.w + 4, a.y, a.z⟩ := by
      unfold Sm.step; rw [if_neg (by omega), e0, e1, e2, show plain 4 = 4 by decide, show plain 0 = 0 by decide]; simp
    rw [e]
    have := moved_same (d := d) (s := s) (a := a) (b := ⟨a.w + 4, a.y, a.z⟩) rfl rfl
    unfold cur; rw [this]; dsimp only; omega
/-- what is known of a line's pieces, so far -/
def Lt (tw : ByteArray → Int) (d : Int) (s : Sm) (m : List It) : Option Bool → Prop
  | none => pcsOf d s m = [] ∧ txL m = []
  | some false => pcsOf d s m ≠ [] ∧ endW tw (pcsOf d s m) = cur d s (smOf m) ∧ lineT tw (pcsOf d s m) = txL m
  | some true => pcsOf d s m ≠ [] ∧ endW tw (pcsOf d s m) + 3 ≤ cur d s (smOf m) ∧ lineT tw (pcsOf d s m) ++ [32] = txL m
theorem Lw.text {d : Int} {s : Sm} (h2 : 0 ≤ s.y) (h3 : 0 ≤ s.z) {m : List It} {st : Option Bool} (h : Lw tw m st) : Lt tw d s m st := by
  induction h with
  | nil => exact ⟨rfl, rfl⟩
  | @box m st x hm hx ih =>
    obtain ⟨k, hs, hw, -⟩ := id hx
    have e1 := pcsOf_hit d s m x k hs
    have e2 : txO x = x.text.data.toList := if_pos k
    have e3 : cur d s (smOf (m ++ [x])) = cur d s (smOf m) + tw x.text := by rw [smOf_snoc, cur_tb hx, hw]
    unfold Lt
    rw [e1, txL_snoc, e2, endW_snoc, lineT_snoc, e3]
    refine ⟨by simp, rfl, ?_⟩
    cases st with
    | none =>
      obtain ⟨i1, i2⟩ := ih
      rw [i1, i2, if_neg (by simp)]; rfl
    | some b =>
      cases b with
      | false =>
        obtain ⟨i1, i2, i3⟩ := ih
        rw [if_neg (fun h => h.2 i2), i3, List.append_nil]
      | true =>
        obtain ⟨i1, i2, i3⟩ := ih
        have hp : 0 < (pcsOf d s m).length := List.length_pos_iff.2 i1
        rw [if_pos ⟨hp, fun h => by unfold cur at i2; omega⟩, i3]
  | @emp m x hm hx ih =>
    obtain ⟨i1, i2⟩ := ih
    have e1 := pcsOf_miss d s m x (fun h => h.2 hx.2.1)
    have e2 : txO x = [] := by
      unfold txO
      rw [if_pos hx.1]
      have : x.text.data.size = 0 := hx.2.1
      rw [Array.size_eq_zero_iff.1 this]
    exact ⟨by rw [e1, i1], by rw [txL_snoc, i2, e2]; rfl⟩
  | @glue m x hm hx ih =>
    obtain ⟨i1, i2, i3⟩ := ih
    have hk := hx.1
    have e1 := pcsOf_miss d s m x (fun h => by omega)
    have e2 : txO x = [32] := by unfold txO; rw [if_neg (by omega), if_pos hk]
    have hb := smOf_bd m
    have := cur_glue (d := d) (s := s) (a := smOf m) hx h2 h3 hb.2.1.1 hb.2.2.1
    unfold Lt
    rw [e1, txL_snoc, e2, smOf_snoc]
    exact ⟨i1, by omega, by rw [i3]⟩
  | @pen m st x hm hx ih =>
    have hk := hx.1
    have e1 := pcsOf_miss d s m x (fun h => by omega)
    have e2 : txO x = [] := by unfold txO; rw [if_neg (by omega), if_neg (by omega)]
    have e3 : cur d s (smOf (m ++ [x])) = cur d s (smOf m) := by rw [smOf_snoc, cur_pen hx]
    unfold Lt
    rw [e1, txL_snoc, e2, e3, List.append_nil]
    exact ih
end
end Go.Proofs.YtempicociampoaaDoor
