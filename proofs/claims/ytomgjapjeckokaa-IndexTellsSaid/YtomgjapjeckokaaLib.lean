/- Lemmas of ours over any program: arrays of bytes held against each other; slices whose elements are rows of cells. -/
import Derived.Test.YtomgjapjeckokaaRows
import Derived.WalkKit
import Derived.WalkSpells
import Derived.WalkLawsBesides
import Derived.Deep.MidRow
import Derived.Deep.QuietTactic
import Derived.BigQuiet
namespace Go.Proofs.Ytomgjapjeckokaa
open Go.RowKit

theorem ret_int {k : IntKind} {a b : Int} (h : a = b) : Ending.returned (.int k a) = .returned (.int k b) := by rw [h]
theorem ret_bool {a b : Bool} (h : a = b) : Ending.returned (.bool a) = .returned (.bool b) := by rw [h]
theorem hid {p : Prop} (h : p) : Hid p := h

/-- a row of bytes as cells -/
def u8s (d : List Int) : List Value := d.map (Value.int .u8)

theorem u8s_length (d : List Int) : (u8s d).length = d.length := by simp [u8s]

section
variable {P : Program}
theorem run_part_u8 (w : World) {e : TypeId} {i : TypeInfo} (hu : P.underlying e = some (.int .u8)) (hi : P.info? e = some i) (hs : i.size = 1) (xs : List Int) (j : Nat) (hj : j < xs.length) :
    (part e (u8s xs).toArray j).run P w = .ok (.int .u8 xs[j]) w := by
  simp [part, isAgg, run_underlying hu, sizeOf, typeInfo, hi, hs, u8s, hj]

theorem run_equal_u8s (w : World) {t e : TypeId} {n : Nat} {i : TypeInfo} (ht : P.underlying t = some (.array n e)) (hu : P.underlying e = some (.int .u8)) (hi : P.info? e = some i) (hs : i.size = 1) (xs ys : List Int) (hx : xs.length = n) (hy : ys.length = n) :
    (Op.equal t (.agg (u8s xs).toArray) (.agg (u8s ys).toArray)).run P w = .ok (decide (xs = ys)) w := by
  have hc : P.cellsOf e = 1 := by simp [Program.cellsOf, hi, hs]
  rw [Op.equal, Op.maxDepth, run_equalIn_array w 9999 _ _ ht hi, hc]
  have key : ∀ (k : Nat), k ≤ n → (Op.eqItems 9999 e 1 (u8s xs).toArray (u8s ys).toArray ((List.range n).drop (n - k))).run P w = .ok (decide (xs.drop (n - k) = ys.drop (n - k))) w := by
    intro k
    induction k with
    | zero =>
      intro _
      have e1 : (List.range n).drop (n - 0) = [] := by simp
      have e2 : xs.drop (n - 0) = [] := by simp [hx]
      have e3 : ys.drop (n - 0) = [] := by simp [hy]
      rw [e1, e2, e3]
      simp [Op.eqItems]
    | succ k ih =>
      intro hk
      have hlt : n - (k + 1) < n := by omega
      have e1 : (List.range n).drop (n - (k + 1)) = (n - (k + 1)) :: (List.range n).drop (n - k) := by
        rw [List.drop_eq_getElem_cons (by simpa using hlt)]
        simp [show n - (k + 1) + 1 = n - k by omega]
      have e2 : xs.drop (n - (k + 1)) = xs[n - (k + 1)] :: xs.drop (n - k) := by
        rw [List.drop_eq_getElem_cons (by omega)]
        simp [show n - (k + 1) + 1 = n - k by omega]
      have e3 : ys.drop (n - (k + 1)) = ys[n - (k + 1)] :: ys.drop (n - k) := by
        rw [List.drop_eq_getElem_cons (by omega)]
        simp [show n - (k + 1) + 1 = n - k by omega]
      rw [e1, e2, e3]
      have p1 := run_part_u8 (P := P) w hu hi hs xs (n - (k + 1)) (by omega)
      have p2 := run_part_u8 (P := P) w hu hi hs ys (n - (k + 1)) (by omega)
      simp only [Op.eqItems, Nat.mul_one, Sem.run_bind, p1, p2, Result.andThen_ok]
      have q : ∀ d : Nat, (Op.equalIn (d + 1) e (.int .u8 xs[n - (k + 1)]) (.int .u8 ys[n - (k + 1)])).run P w = .ok (xs[n - (k + 1)] == ys[n - (k + 1)]) w := fun d => by
        simp [Op.equalIn, run_underlying hu]
      rw [q 9998]
      simp only [Result.andThen_ok]
      by_cases h : xs[n - (k + 1)] = ys[n - (k + 1)]
      · simp [h, ih (by omega)]
      · simp [h]
  have := key n (Nat.le_refl n)
  simpa using this

theorem run_neq_u8s (w : World) {t e : TypeId} {n : Nat} (ht : P.underlying t = some (.array n e)) (hu : P.underlying e = some (.int .u8)) (hz : (P.info? e).map (·.size) = some 1) (xs ys : List Int) (hx : xs.length = n) (hy : ys.length = n) :
    (binOp .neq t (.agg (u8s xs).toArray) (.agg (u8s ys).toArray)).run P w = .ok (.bool (!decide (xs = ys))) w := by
  obtain ⟨i, hi, hs⟩ := Option.map_eq_some_iff.1 hz
  simp only [binOp, Sem.run_bind, run_equal_u8s w ht hu hi hs xs ys hx hy, Result.andThen_ok, Sem.run_pure]

theorem run_eql_u8s (w : World) {t e : TypeId} {n : Nat} (ht : P.underlying t = some (.array n e)) (hu : P.underlying e = some (.int .u8)) (hz : (P.info? e).map (·.size) = some 1) (xs ys : List Int) (hx : xs.length = n) (hy : ys.length = n) :
    (binOp .eql t (.agg (u8s xs).toArray) (.agg (u8s ys).toArray)).run P w = .ok (.bool (decide (xs = ys))) w := by
  obtain ⟨i, hi, hs⟩ := Option.map_eq_some_iff.1 hz
  simp only [binOp, Sem.run_bind, run_equal_u8s w ht hu hi hs xs ys hx hy, Result.andThen_ok, Sem.run_pure]

/-- a row of cells read by value, in a region that draws its order -/
theorem wpQuiet_load_mid {ops : Array Oper} {rest : List Oper} {op : Oper} {a : Act} {C : World → Prop} {Q : Act → Prop} (hgd : op.guard = none) (ty : TypeId) (x : Operand) (ho : op.op = .load ty x)
    (b o : Nat) (hx : a.eval x = .pointer (some ⟨b, o, none⟩)) (cs : List Value) (d : TypeDesc) (hc : ∀ w, C w → w.rangeAt b o cs)
    (hu : P.underlying ty = some d) (hd : d.isRow = true) (hi : (P.info? ty).map (·.size) = some cs.length)
    (h : wpQuiet P ops C Q rest (a.put op.dst (.agg cs.toArray))) : wpQuiet P ops C Q (op :: rest) a :=
  wpQuiet_step fun K hK => by
    simp only [Region.wanted, hgd, if_true]
    refine ⟨_, fun w hw => ?_, hK _ h⟩
    unfold Oper.quietAt execOp
    simp only [ho, hx, Instr.loadAt, Instr.sureAddr, Sem.run_bind, Sem.run_pure, Result.andThen_ok, run_loadVar_mid w b o ty cs d (hc w hw) hu hd hi]
    exact ⟨rfl, rfl⟩

/-- a binary operation, by the run of it -/
theorem wpQuiet_binOp {ops : Array Oper} {rest : List Oper} {op : Oper} {a : Act} {C : World → Prop} {Q : Act → Prop} (hgd : op.guard = none) (bo : BinOp) (t t' : TypeId) (x y : Operand) (ho : op.op = .binOp bo t x y t')
    (vx vy v : Value) (hx : a.eval x = vx) (hy : a.eval y = vy) (hg : ∀ w, (eqGuard bo t x y vx vy).run P w = .ok () w) (hr : ∀ w, (binOp bo t vx vy).run P w = .ok v w)
    (h : wpQuiet P ops C Q rest (a.put op.dst v)) : wpQuiet P ops C Q (op :: rest) a :=
  wpQuiet_step fun K hK => by
    simp only [Region.wanted, hgd, if_true]
    refine ⟨v, fun w _ => ?_, hK _ h⟩
    unfold Oper.quietAt execOp
    simp only [ho, hx, hy, Sem.run_bind, Sem.run_pure, Result.andThen_ok, hg, hr]
    exact ⟨rfl, rfl⟩

/-- an operation that yields one value in every world of the class -/
theorem wpQuiet_run {ops : Array Oper} {rest : List Oper} {op : Oper} {a : Act} {C : World → Prop} {Q : Act → Prop} (hgd : op.guard = none) (v : Value)
    (hr : ∀ w, C w → (execOp a.eval op).run P w = .ok (.value v) w)
    (h : wpQuiet P ops C Q rest (a.put op.dst v)) : wpQuiet P ops C Q (op :: rest) a :=
  wpQuiet_step fun K hK => by
    simp only [Region.wanted, hgd, if_true]
    refine ⟨v, fun w hw => ?_, hK _ h⟩
    unfold Oper.quietAt
    rw [hr w hw]
    exact ⟨rfl, rfl⟩
end

/-- slices of rows of cells, k cells each -/
def Sl {α : Type} (w : World) (k : Nat) (enc : α → List Value) (v : Value) (l : List α) : Prop :=
  (v = .slice none 0 0 ∧ l = []) ∨ ∃ (a : Addr) (cap : Nat), v = .slice (some a) l.length cap ∧ l.length ≤ cap ∧ cap ≤ maxLen ∧ (l ≠ [] → a.spot = none) ∧ ∀ i x, l[i]? = some x → w.rangeAt a.block (a.off + i * k) (enc x)

theorem Sl.mk {α : Type} {w : World} {k : Nat} {enc : α → List Value} {l : List α} {b o cap : Nat} (h1 : l.length ≤ cap) (h2 : cap ≤ maxLen) (h3 : ∀ i x, l[i]? = some x → w.rangeAt b (o + i * k) (enc x)) :
    Sl w k enc (.slice (some ⟨b, o, none⟩) l.length cap) l := .inr ⟨⟨b, o, none⟩, cap, rfl, h1, h2, fun _ => rfl, h3⟩

theorem Sl.shape {α : Type} {w : World} {k : Nat} {enc : α → List Value} {v : Value} {l : List α} (h : Sl w k enc v l) : ∃ p cap, v = .slice p l.length cap ∧ l.length ≤ maxLen := by
  rcases h with ⟨rfl, rfl⟩ | ⟨a, cap, rfl, h1, h2, _⟩
  · exact ⟨none, 0, rfl, by simp [maxLen]⟩
  · exact ⟨_, _, rfl, by omega⟩

theorem Sl.open {α : Type} {w : World} {k : Nat} {enc : α → List Value} {v : Value} {l : List α} (h : Sl w k enc v l) (hn : l ≠ []) :
    ∃ b o cap, v = .slice (some ⟨b, o, none⟩) l.length cap ∧ l.length ≤ cap ∧ cap ≤ maxLen ∧ ∀ i x, l[i]? = some x → w.rangeAt b (o + i * k) (enc x) := by
  rcases h with ⟨_, h⟩ | ⟨⟨b, o, sp⟩, cap, rfl, h1, h2, h3, h4⟩
  · exact absurd h hn
  · obtain rfl : sp = none := h3 hn
    exact ⟨b, o, cap, rfl, h1, h2, h4⟩

def encI (n : Int) : List Value := [.int .i64 n]

theorem rangeAt_one {w : World} {b o : Nat} {v : Value} (h : w.rangeAt b o [v]) : w.cell? ⟨b, o, none⟩ = some v := h 0 v rfl

theorem rangeAt_drewN {w : World} {b o : Nat} {cs : List Value} (h : w.rangeAt b o cs) : ∀ w', (∃ n, w' = w.drewN n) → w'.rangeAt b o cs := by
  rintro _ ⟨n, rfl⟩; exact h
theorem rangeAt_drewN2 {w : World} (n : Nat) {b o : Nat} {cs : List Value} (h : w.rangeAt b o cs) : ∀ w', (∃ m, w' = (w.drewN n).drewN m) → w'.rangeAt b o cs := by
  rintro _ ⟨m, rfl⟩; exact h

/-- after some draws: kept from the walk -/
def Drew (w w' : World) : Prop := ∃ m, w' = w.drewN m
theorem Drew.refl (w : World) : Drew w w := ⟨0, rfl⟩
theorem Drew.trans {a b c : World} (h : Drew a b) (k : Drew b c) : Drew a c := by
  obtain ⟨m, rfl⟩ := h; obtain ⟨n, rfl⟩ := k; exact ⟨m + n, World.drewN_drewN ..⟩
theorem Drew.drewN {a b : World} (h : Drew a b) (n : Nat) : Drew a (b.drewN n) := h.trans ⟨n, rfl⟩
theorem Drew.cell {a b : World} (h : Drew a b) {p : Addr} {v : Value} (hc : a.cell? p = some v) : b.cell? p = some v := by obtain ⟨m, rfl⟩ := h; exact hc
theorem Drew.range {a b : World} (h : Drew a b) {k o : Nat} {cs : List Value} (hc : a.rangeAt k o cs) : b.rangeAt k o cs := by obtain ⟨m, rfl⟩ := h; exact hc
theorem Drew.sl {α : Type} {a b : World} (h : Drew a b) {k : Nat} {enc : α → List Value} {v : Value} {l : List α} (hs : Sl a k enc v l) : Sl b k enc v l := by obtain ⟨m, rfl⟩ := h; exact hs
theorem Drew.out {a b : World} (h : Drew a b) : ∃ m, b = a.drewN m := h
end Go.Proofs.Ytomgjapjeckokaa
