/- The walks of codexkeep's Entries and Blocks (printed by gen_iyn.py). -/
import Derived.Test.YtomgjapjeckokaaIyM
import Derived.Deep.RegionHeld3
import Derived.Laws.StructEq
namespace Go.Proofs.Ytomgjapjeckokaa
open Go.RowKit Go.Shelf Go.Lib

theorem Ent.ext' {a b : Ent} (h1 : a.key = b.key) (h2 : a.place = b.place) (h3 : a.blocks = b.blocks) (h4 : a.refs = b.refs) : a = b := by
  cases a; cases b
  dsimp only at h1 h2 h3 h4
  rw [h1, h2, h3, h4]
instance : DecidableEq Ent := fun a b =>
  decidable_of_iff (a.key = b.key ∧ a.place = b.place ∧ a.blocks = b.blocks ∧ a.refs = b.refs) ⟨fun h => Ent.ext' h.1 h.2.1 h.2.2.1 h.2.2.2, fun h => by rw [h]; exact ⟨rfl, rfl, rfl, rfl⟩⟩
section
variable {P : Program}
theorem run_equalIn_u8s (w : World) (d : Nat) {t e : TypeId} {n : Nat} {i : TypeInfo} (ht : P.underlying t = some (.array n e)) (hu : P.underlying e = some (.int .u8)) (hi : P.info? e = some i) (hs : i.size = 1) (xs ys : List Int) (hx : xs.length = n) (hy : ys.length = n) :
    (Op.equalIn (d + 2) t (.agg (u8s xs).toArray) (.agg (u8s ys).toArray)).run P w = .ok (decide (xs = ys)) w := by
  have hc : P.cellsOf e = 1 := by simp [Program.cellsOf, hi, hs]
  rw [run_equalIn_array w (d + 1) _ _ ht hi, hc]
  have key : ∀ (k : Nat), k ≤ n → (Op.eqItems (d + 1) e 1 (u8s xs).toArray (u8s ys).toArray ((List.range n).drop (n - k))).run P w = .ok (decide (xs.drop (n - k) = ys.drop (n - k))) w := by
    intro k
    induction k with
    | zero =>
      intro _
      have e1 : (List.range n).drop (n - 0) = [] := by simp
      have e2 : xs.drop (n - 0) = [] := by simp [hx]
      have e3 : ys.drop (n - 0) = [] := by simp [hy]
      rw [e1, e2, e3]
      simp [Op.eqItems]
    | succ k ih =>
      intro hk
      have hlt : n - (k + 1) < n := by omega
      have e1 : (List.range n).drop (n - (k + 1)) = (n - (k + 1)) :: (List.range n).drop (n - k) := by
        rw [List.drop_eq_getElem_cons (by simpa using hlt)]
        simp [show n - (k + 1) + 1 = n - k by omega]
      have e2 : xs.drop (n - (k + 1)) = xs[n - (k + 1)] :: xs.drop (n - k) := by
        rw [List.drop_eq_getElem_cons (by omega)]
        simp [show n - (k + 1) + 1 = n - k by omega]
      have e3 : ys.drop (n - (k + 1)) = ys[n - (k + 1)] :: ys.drop (n - k) := by
        rw [List.drop_eq_getElem_cons (by omega)]
        simp [show n - (k + 1) + 1 = n - k by omega]
      rw [e1, e2, e3]
      have p1 := run_part_u8 (P := P) w hu hi hs xs (n - (k + 1)) (by omega)
      have p2 := run_part_u8 (P := P) w hu hi hs ys (n - (k + 1)) (by omega)
      simp only [Op.eqItems, Nat.mul_one, Sem.run_bind, p1, p2, Result.andThen_ok]
      have q : (Op.equalIn (d + 1) e (.int .u8 xs[n - (k + 1)]) (.int .u8 ys[n - (k + 1)])).run P w = .ok (xs[n - (k + 1)] == ys[n - (k + 1)]) w := by
        simp [Op.equalIn, run_underlying hu]
      rw [q]
      simp only [Result.andThen_ok]
      by_cases h : xs[n - (k + 1)] = ys[n - (k + 1)]
      · simp [h, ih (by omega)]
      · simp [h]
  have := key n (Nat.le_refl n)
  simpa using this
end
set_option maxRecDepth 100000 in
theorem part_key (e : Ent) (he : e.key.length = 32) (w : World) : (part 46 (rowE e) 0).run Try.prog w = .ok (.agg (u8s (intsU e.key)).toArray) w := by
  have h : (Try.prog.info? 46).map (·.size) = some 32 := by kernel_rfl
  obtain ⟨i, hi, hs⟩ := Option.map_eq_some_iff.1 h
  have hx : (rowE e).extract 0 (0 + 32) = (keyV e.key).toArray := by
    unfold rowE encE
    rw [List.extract_toArray]
    congr 1
    have hl : (keyV e.key).length = 32 := by rw [keyV_len, he]
    rw [List.extract_eq_take_drop]
    simp only [List.drop_zero, Nat.sub_zero, Nat.zero_add]
    exact List.take_left' hl
  rw [← rowU_u8s, rowU_key]
  simp [part, isAgg, run_underlying Try.underlying46, sizeOf, typeInfo, hi, hs]
  simpa using hx
theorem part_int (e : Ent) (_he : e.key.length = 32) (j : Nat) (x : Int) (hx : (encE e)[j]? = some (.int .i64 x)) (w : World) : (part 3 (rowE e) j).run Try.prog w = .ok (.int .i64 x) w := by
  have h : (Try.prog.info? 3).map (·.size) = some 1 := by kernel_rfl
  obtain ⟨i, hi, hs⟩ := Option.map_eq_some_iff.1 h
  have h2 : (rowE e)[j]? = some (.int .i64 x) := by unfold rowE; rw [List.getElem?_toArray]; exact hx
  obtain ⟨hj, hv⟩ := Array.getElem?_eq_some_iff.1 h2
  simp [part, isAgg, run_underlying Try.underlying3, sizeOf, typeInfo, hi, hs, hj, hv]
theorem fieldsE : Try.prog.underlying 48 = some (.struct (Try.prog.fieldsOf 48)) ∧ (Try.prog.fieldsOf 48).toList.map (fun f => (f.name, f.type, f.offset)) = [("Key", 46, 0), ("Place", 3, 32), ("Blocks", 3, 33), ("Refs", 3, 34)] ∧ Try.prog.stoodInHeld 48 = false := by
  refine ⟨by kernel_rfl, by kernel_rfl, Try.stoodInHeld48⟩
theorem eqFields_step {P : Program} {d : Nat} {f : Field} {fs : List Field} {xs ys : Array Value} {w : World} {a b : Value} {r q : Bool} (hn : f.name ≠ "_") (ha : (part f.type xs f.offset).run P w = .ok a w) (hb : (part f.type ys f.offset).run P w = .ok b w)
    (hr : (Op.equalIn d f.type a b).run P w = .ok r w) (hq : (Op.eqFields d xs ys fs).run P w = .ok q w) : (Op.eqFields d xs ys (f :: fs)).run P w = .ok (r && q) w := by
  rw [Op.eqFields, if_pos hn]
  simp only [Sem.run_bind, ha, hb, hr, Result.andThen_ok]
  cases r
  · rfl
  · simpa using hq
theorem run_equalIn_ent (d : Nat) (a b : Ent) (ha : a.key.length = 32) (hb : b.key.length = 32) (w : World) : (Op.equalIn (d + 3) 48 (.agg (rowE a)) (.agg (rowE b))).run Try.prog w = .ok (decide (a = b)) w := by
  obtain ⟨h1, h2, h3⟩ := fieldsE
  rw [run_equalIn_struct w (d + 2) _ _ _ h1 h3]
  have u := part_key a ha w
  have u' := part_key b hb w
  have c1 := part_int a ha 32 a.place (by unfold encE; rw [List.getElem?_append_right (by rw [keyV_len, ha]; decide), keyV_len, ha]; rfl) w
  have c2 := part_int a ha 33 a.blocks (by unfold encE; rw [List.getElem?_append_right (by rw [keyV_len, ha]; decide), keyV_len, ha]; rfl) w
  have c3 := part_int a ha 34 a.refs (by unfold encE; rw [List.getElem?_append_right (by rw [keyV_len, ha]; decide), keyV_len, ha]; rfl) w
  have x1 := part_int b hb 32 b.place (by unfold encE; rw [List.getElem?_append_right (by rw [keyV_len, hb]; decide), keyV_len, hb]; rfl) w
  have x2 := part_int b hb 33 b.blocks (by unfold encE; rw [List.getElem?_append_right (by rw [keyV_len, hb]; decide), keyV_len, hb]; rfl) w
  have x3 := part_int b hb 34 b.refs (by unfold encE; rw [List.getElem?_append_right (by rw [keyV_len, hb]; decide), keyV_len, hb]; rfl) w
  obtain ⟨iu, hiu, hsu⟩ : ∃ i, Try.prog.info? 5 = some i ∧ i.size = 1 := by
    have h : (Try.prog.info? 5).map (·.size) = some 1 := by kernel_rfl
    exact Option.map_eq_some_iff.1 h
  have k0 := run_equalIn_u8s (P := Try.prog) w d (t := 46) (e := 5) (n := 32) Try.underlying46 Try.underlying5 hiu hsu (intsU a.key) (intsU b.key) (by unfold intsU; rw [List.length_map, ha]) (by unfold intsU; rw [List.length_map, hb])
  have kd : decide (intsU a.key = intsU b.key) = decide (a.key = b.key) := decide_eq_decide.2 ⟨intsU_inj, fun h => by rw [h]⟩
  rw [kd] at k0
  have ki : ∀ x y, (Op.equalIn (d + 2) 3 (.int .i64 x) (.int .i64 y)).run Try.prog w = .ok (x == y) w := fun x y => run_equalIn_int (P := Try.prog) w (d + 1) 3 .i64 .i64 x y Try.underlying3
  have hab : decide (a = b) = (decide (a.key = b.key) && (decide (a.place = b.place) && (decide (a.blocks = b.blocks) && decide (a.refs = b.refs)))) := by
    rw [Bool.eq_iff_iff]
    simp only [Bool.and_eq_true, decide_eq_true_eq]
    exact ⟨fun h => by rw [h]; exact ⟨rfl, rfl, rfl, rfl⟩, fun h => Ent.ext' h.1 h.2.1 h.2.2.1 h.2.2.2⟩
  rw [hab]
  obtain ⟨L, hL⟩ : ∃ L, (Try.prog.fieldsOf 48).toList = L := ⟨_, rfl⟩
  rw [hL] at h2 ⊢
  clear hL h1 h3 hab kd
  rcases L with _ | ⟨f0, _ | ⟨f1, _ | ⟨f2, _ | ⟨f3, _ | ⟨f4, L⟩⟩⟩⟩⟩ <;> simp only [List.map_cons, List.map_nil, List.cons.injEq, Prod.mk.injEq, reduceCtorEq, and_false, and_true] at h2
  obtain ⟨⟨n0, t0, o0⟩, ⟨n1, t1, o1⟩, ⟨n2, t2, o2⟩, n3, t3, o3⟩ := h2
  have m0 : f0.name ≠ "_" := by rw [n0]; decide
  have m1 : f1.name ≠ "_" := by rw [n1]; decide
  have m2 : f2.name ≠ "_" := by rw [n2]; decide
  have m3 : f3.name ≠ "_" := by rw [n3]; decide
  have hfin : (Op.eqFields (d + 2) (rowE a) (rowE b) [f0, f1, f2, f3]).run Try.prog w = .ok (decide (a.key = b.key) && ((a.place == b.place) && ((a.blocks == b.blocks) && ((a.refs == b.refs) && true)))) w :=
    eqFields_step m0 (by rw [t0, o0]; exact u) (by rw [t0, o0]; exact u') (by rw [t0]; exact k0)
      (eqFields_step m1 (by rw [t1, o1]; exact c1) (by rw [t1, o1]; exact x1) (by rw [t1]; exact ki _ _)
        (eqFields_step m2 (by rw [t2, o2]; exact c2) (by rw [t2, o2]; exact x2) (by rw [t2]; exact ki _ _)
          (eqFields_step m3 (by rw [t3, o3]; exact c3) (by rw [t3, o3]; exact x3) (by rw [t3]; exact ki _ _) rfl)))
  have e : ∀ x y : Int, (x == y) = decide (x = y) := fun x y => by rw [Bool.eq_iff_iff]; simp
  rw [hfin, Bool.and_true, e, e, e]
theorem run_eq_ent (a b : Ent) (ha : a.key.length = 32) (hb : b.key.length = 32) (w : World) : (Op.equal 48 (.agg (rowE a)) (.agg (rowE b))).run Try.prog w = .ok (decide (a = b)) w := by
  have h := run_equalIn_ent 9997 a b ha hb w
  rw [Op.equal, Op.maxDepth]
  exact h
theorem run_neq_ent (a b : Ent) (ha : a.key.length = 32) (hb : b.key.length = 32) (w : World) : (binOp .neq 48 (.agg (encE a).toArray) (.agg (encE b).toArray)).run Try.prog w = .ok (.bool (!decide (a = b))) w := by
  have h := run_eq_ent a b ha hb w
  unfold rowE at h
  simp only [binOp, Sem.run_bind, h, Result.andThen_ok, Sem.run_pure]
theorem run_neq_blk (a b : List UInt8) (ha : a.length = 128) (hb : b.length = 128) (w : World) : (binOp .neq 43 (.agg (keyV a).toArray) (.agg (keyV b).toArray)).run Try.prog w = .ok (.bool (!decide (a = b))) w := by
  have h := run_neq_u8s (P := Try.prog) w (t := 43) (e := 5) (n := 128) Try.underlying43 Try.underlying5 (by kernel_rfl) (intsU a) (intsU b) (by unfold intsU; rw [List.length_map, ha]) (by unfold intsU; rw [List.length_map, hb])
  rw [← rowU_u8s, ← rowU_u8s] at h
  rw [show decide (a = b) = decide (intsU a = intsU b) from decide_eq_decide.2 ⟨fun h => by rw [h], intsU_inj⟩]
  exact h
end Go.Proofs.Ytomgjapjeckokaa
