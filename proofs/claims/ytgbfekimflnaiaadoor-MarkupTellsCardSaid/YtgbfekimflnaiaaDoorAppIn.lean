/- 'append' to an own row as a single operation, inside a fence; cells that were laid ahead of a call. -/
import Derived.Test.YtgbfekimflnaiaaDoorRangeY
import Derived.BigRegionIn
namespace Go.Proofs.YtgbfekimflnaiaaDoor
open Go.RowKit

theorem wpIn_append_own {F : Fence} {n : Nat} {P : Program} {w : World} {o : Oper} {a : Act} {K : Act → World → Prop} {Q : Exit → Act → World → Prop}
    (s x : Operand) (t : TypeId) (hop : o.op = Op.call { callee := Callee.builtin Builtin.append, args := #[s, x], argTypes := #[t, t] })
    (base : Nat) (e : TypeId) (i : TypeInfo) (z : Value) (size bytes : Nat) (h1 : P.underlying t = some (.slice e)) (h2 : P.info? e = some i) (h3 : i.zero = some z) (h4 : i.size = size) (h5 : i.bytes = bytes) (h6 : z.cells.size = size) (h7 : 0 < size)
    (v : Value) (k : Nat) (xs : List Value) (hs : a.eval s = v) (hown : w.ownsRow base e size v k xs) (ad : Addr) (m c : Nat) (news : List Value) (hx : a.eval x = .slice (some ad) m c) (hn : news.length = m * size)
    (hc : ∀ j u, news[j]? = some u → w.cell? (ad.add j) = some u) (h1c : ∀ u ∈ news, u.oneCell' = true) (b1 : k + m ≤ maxLen) (b2 : (k + m) * bytes ≤ 140737488355328) (b3 : base ≤ w.heap.size)
    (hK : ∀ v' w', w'.ownsRow base e size v' (k + m) (xs ++ news) → w.grownBy w' v.ownBlock → (v' = .slice none 0 0 ↔ v = .slice none 0 0 ∧ m = 0) → K (a.put o.dst v') w') :
    o.wpIn F n P a w K Q := by
  obtain ⟨v', w', hrun, r1, r2, r3⟩ := run_append_own (P := P) w base t o.type e i z size bytes h1 h2 h3 h4 h5 h6 h7 v k xs hown ad m c news hn hc h1c b1 b2 b3
  unfold Oper.wpIn
  refine ⟨?_, ?_⟩
  · simp [Oper.about, hop, resolve, Target.leads, Sem.run_pure]
  · rw [Oper.semAt_plain F _ _ (by rw [hop]; intro c hc'; cases hc')]
    simp [execOp, hop, resolve, invoke, builtin, hs, hx, hrun, Result.andThen]
    exact hK v' w' r1 r2 r3

theorem Below_dr {n : Nat} {a w : World} (h : Below n a w) : Below n a w.drew := ⟨h.os, h.tape, h.output, h.size, h.block⟩
/-- cells that were laid new stand behind a call -/
theorem cells_then {Y w1 : World} {cs : List Value} {t : TypeId} (h : Below (Y.alloc (.cells cs.toArray t)).heap.size (Y.alloc (.cells cs.toArray t)) w1) :
    ∀ (j : Nat) (u : Value), cs[j]? = some u → w1.cell? ((⟨Y.heap.size, 0, none⟩ : Addr).add j) = some u := by
  intro j u hj
  have h1 := (h.block Y.heap.size (by simp)).trans (World.alloc_heap_new Y (.cells cs.toArray t))
  have : (⟨Y.heap.size, 0, none⟩ : Addr).add j = ⟨Y.heap.size, j, none⟩ := by simp [Addr.add]; omega
  rw [this]
  simp [World.cell?, h1, hj]
theorem cells_thenD {Y w1 : World} {cs : List Value} {t : TypeId} (h : Below (Y.alloc (.cells cs.toArray t)).drew.heap.size (Y.alloc (.cells cs.toArray t)).drew w1) :
    ∀ (j : Nat) (u : Value), cs[j]? = some u → w1.cell? ((⟨Y.heap.size, 0, none⟩ : Addr).add j) = some u := by
  intro j u hj
  have h1 := (h.block Y.heap.size (by show Y.heap.size < (Y.alloc (.cells cs.toArray t)).heap.size; simp)).trans (World.alloc_heap_new Y (.cells cs.toArray t))
  have : (⟨Y.heap.size, 0, none⟩ : Addr).add j = ⟨Y.heap.size, j, none⟩ := by simp [Addr.add]; omega
  rw [this]
  simp [World.cell?, h1, hj]
theorem KeptX.rng {N : TypeId → Bool} {B : Nat} {W W' : World} (h : KeepsX N B W W') {base : Nat} (hb : B ≤ base) {e : TypeId} (he : N e = true) {size : Nat} {v : Value} {n : Nat} {xs : List Value} (ho : W.ownsRow base e size v n xs) : W'.ownsRow base e size v n xs := by
  obtain ⟨h1, h2⟩ := ho
  refine ⟨h1, ?_⟩
  rcases h2 with h2 | ⟨g, cap, cur, hv, hg, hh, r⟩
  · exact .inl h2
  · exact .inr ⟨g, cap, cur, hv, hg, h.same _ _ (by omega) hh (.inr he), r⟩
theorem KeepsM.rng_aux {W W' : World} {base : Nat} {e : TypeId} {size : Nat} {v : Value} {n : Nat} {xs : List Value} (ho : W.ownsRow base e size v n xs) (h : ∀ k o, base ≤ k → W.heap[k]? = some o → v.ownBlock = some k → W'.heap[k]? = some o) : W'.ownsRow base e size v n xs := by
  obtain ⟨h1, h2⟩ := ho
  refine ⟨h1, ?_⟩
  rcases h2 with h2 | ⟨g, cap, cur, hv, hg, hh, r⟩
  · exact .inl h2
  · exact .inr ⟨g, cap, cur, hv, hg, h _ _ hg hh (by subst hv; rfl), r⟩
end Go.Proofs.YtgbfekimflnaiaaDoor
