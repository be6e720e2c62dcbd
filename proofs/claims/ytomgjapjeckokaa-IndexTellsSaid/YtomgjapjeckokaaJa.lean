/- Ja: IyN, IyO, IyD, IyQ in one text. -/
import Derived.Test.YtomgjapjeckokaaSqz
import Derived.Test.YtomgjapjeckokaaIyM
import Derived.Deep.RegionHeld3
import Derived.Laws.StructEq
import Derived.Test.YtomgjapjeckokaaIyC
import Derived.Test.YtomgjapjeckokaaIyP
import Derived.Test.YtomgjapjeckokaaIyL
namespace Go.Proofs.Ytomgjapjeckokaa
open Go.RowKit Go.Shelf Go.Lib

theorem Ent.ext' {a b : Ent} (h1 : a.key = b.key) (h2 : a.place = b.place) (h3 : a.blocks = b.blocks) (h4 : a.refs = b.refs) : a = b := by
  cases a; cases b
  dsimp only at h1 h2 h3 h4
  rw [h1, h2, h3, h4]
instance : DecidableEq Ent := fun a b =>
  decidable_of_iff (a.key = b.key ∧ a.place = b.place ∧ a.blocks = b.blocks ∧ a.refs = b.refs) ⟨fun h => Ent.ext' h.1 h.2.1 h.2.2.1 h.2.2.2, fun h => by rw [h]; exact ⟨rfl, rfl, rfl, rfl⟩⟩
section
variable {P : Program}
theorem run_equalIn_u8s (w : World) (d : Nat) {t e : TypeId} {n : Nat} {i : TypeInfo} (ht : P.underlying t = some (.array n e)) (hu : P.underlying e = some (.int .u8)) (hi : P.info? e = some i) (hs : i.size = 1) (xs ys : List Int) (hx : xs.length = n) (hy : ys.length = n) :
    (Op.equalIn (d + 2) t (.agg (u8s xs).toArray) (.agg (u8s ys).toArray)).run P w = .ok (decide (xs = ys)) w := by
  have hc : P.cellsOf e = 1 := by simp [Program.cellsOf, hi, hs]
  rw [run_equalIn_array w (d + 1) _ _ ht hi, hc]
  have key : ∀ (k : Nat), k ≤ n → (Op.eqItems (d + 1) e 1 (u8s xs).toArray (u8s ys).toArray ((List.range n).drop (n - k))).run P w = .ok (decide (xs.drop (n - k) = ys.drop (n - k))) w := by
    intro k
    induction k with
    | zero =>
      intro _
      have e1 : (List.range n).drop (n - 0) = [] := by simp
      have e2 : xs.drop (n - 0) = [] := by simp [hx]
      have e3 : ys.drop (n - 0) = [] := by simp [hy]
      rw [e1, e2, e3]
      simp [Op.eqItems]
    | succ k ih =>
      intro hk
      have hlt : n - (k + 1) < n := by omega
      have e1 : (List.range n).drop (n - (k + 1)) = (n - (k + 1)) :: (List.range n).drop (n - k) := by
        rw [List.drop_eq_getElem_cons (by simpa using hlt)]
        simp [show n - (k + 1) + 1 = n - k by omega]
      have e2 : xs.drop (n - (k + 1)) = xs[n - (k + 1)] :: xs.drop (n - k) := by
        rw [List.drop_eq_getElem_cons (by omega)]
        simp [show n - (k + 1) + 1 = n - k by omega]
      have e3 : ys.drop (n - (k + 1)) = ys[n - (k + 1)] :: ys.drop (n - k) := by
        rw [List.drop_eq_getElem_cons (by omega)]
        simp [show n - (k + 1) + 1 = n - k by omega]
      rw [e1, e2, e3]
      have p1 := run_part_u8 (P := P) w hu hi hs xs (n - (k + 1)) (by omega)
      have p2 := run_part_u8 (P := P) w hu hi hs ys (n - (k + 1)) (by omega)
      simp only [Op.eqItems, Nat.mul_one, Sem.run_bind, p1, p2, Result.andThen_ok]
      have q : (Op.equalIn (d + 1) e (.int .u8 xs[n - (k + 1)]) (.int .u8 ys[n - (k + 1)])).run P w = .ok (xs[n - (k + 1)] == ys[n - (k + 1)]) w := by
        simp [Op.equalIn, run_underlying hu]
      rw [q]
      simp only [Result.andThen_ok]
      by_cases h : xs[n - (k + 1)] = ys[n - (k + 1)]
      · simp [h, ih (by omega)]
      · simp [h]
  have := key n (Nat.le_refl n)
  simpa using this
end
set_option maxRecDepth 100000 in
theorem part_key (e : Ent) (he : e.key.length = 32) (w : World) : (part 46 (rowE e) 0).run Try.prog w = .ok (.agg (u8s (intsU e.key)).toArray) w := by
  have h : (Try.prog.info? 46).map (·.size) = some 32 := by kernel_rfl
  obtain ⟨i, hi, hs⟩ := Option.map_eq_some_iff.1 h
  have hx : (rowE e).extract 0 (0 + 32) = (keyV e.key).toArray := by
    unfold rowE encE
    rw [List.extract_toArray]
    congr 1
    have hl : (keyV e.key).length = 32 := by rw [keyV_len, he]
    rw [List.extract_eq_take_drop]
    simp only [List.drop_zero, Nat.sub_zero, Nat.zero_add]
    exact List.take_left' hl
  rw [← rowU_u8s, rowU_key]
  simp [part, isAgg, run_underlying Try.underlying46, sizeOf, typeInfo, hi, hs]
  simpa using hx
theorem part_int (e : Ent) (_he : e.key.length = 32) (j : Nat) (x : Int) (hx : (encE e)[j]? = some (.int .i64 x)) (w : World) : (part 3 (rowE e) j).run Try.prog w = .ok (.int .i64 x) w := by
  have h : (Try.prog.info? 3).map (·.size) = some 1 := by kernel_rfl
  obtain ⟨i, hi, hs⟩ := Option.map_eq_some_iff.1 h
  have h2 : (rowE e)[j]? = some (.int .i64 x) := by unfold rowE; rw [List.getElem?_toArray]; exact hx
  obtain ⟨hj, hv⟩ := Array.getElem?_eq_some_iff.1 h2
  simp [part, isAgg, run_underlying Try.underlying3, sizeOf, typeInfo, hi, hs, hj, hv]
theorem fieldsE : Try.prog.underlying 48 = some (.struct (Try.prog.fieldsOf 48)) ∧ (Try.prog.fieldsOf 48).toList.map (fun f => (f.name, f.type, f.offset)) = [("Key", 46, 0), ("Place", 3, 32), ("Blocks", 3, 33), ("Refs", 3, 34)] ∧ Try.prog.stoodInHeld 48 = false := by
  refine ⟨by kernel_rfl, by kernel_rfl, Try.stoodInHeld48⟩
theorem eqFields_step {P : Program} {d : Nat} {f : Field} {fs : List Field} {xs ys : Array Value} {w : World} {a b : Value} {r q : Bool} (hn : f.name ≠ "_") (ha : (part f.type xs f.offset).run P w = .ok a w) (hb : (part f.type ys f.offset).run P w = .ok b w)
    (hr : (Op.equalIn d f.type a b).run P w = .ok r w) (hq : (Op.eqFields d xs ys fs).run P w = .ok q w) : (Op.eqFields d xs ys (f :: fs)).run P w = .ok (r && q) w := by
  rw [Op.eqFields, if_pos hn]
  simp only [Sem.run_bind, ha, hb, hr, Result.andThen_ok]
  cases r
  · rfl
  · simpa using hq
theorem run_equalIn_ent (d : Nat) (a b : Ent) (ha : a.key.length = 32) (hb : b.key.length = 32) (w : World) : (Op.equalIn (d + 3) 48 (.agg (rowE a)) (.agg (rowE b))).run Try.prog w = .ok (decide (a = b)) w := by
  obtain ⟨h1, h2, h3⟩ := fieldsE
  rw [run_equalIn_struct w (d + 2) _ _ _ h1 h3]
  have u := part_key a ha w
  have u' := part_key b hb w
  have c1 := part_int a ha 32 a.place (by unfold encE; rw [List.getElem?_append_right (by rw [keyV_len, ha]; decide), keyV_len, ha]; rfl) w
  have c2 := part_int a ha 33 a.blocks (by unfold encE; rw [List.getElem?_append_right (by rw [keyV_len, ha]; decide), keyV_len, ha]; rfl) w
  have c3 := part_int a ha 34 a.refs (by unfold encE; rw [List.getElem?_append_right (by rw [keyV_len, ha]; decide), keyV_len, ha]; rfl) w
  have x1 := part_int b hb 32 b.place (by unfold encE; rw [List.getElem?_append_right (by rw [keyV_len, hb]; decide), keyV_len, hb]; rfl) w
  have x2 := part_int b hb 33 b.blocks (by unfold encE; rw [List.getElem?_append_right (by rw [keyV_len, hb]; decide), keyV_len, hb]; rfl) w
  have x3 := part_int b hb 34 b.refs (by unfold encE; rw [List.getElem?_append_right (by rw [keyV_len, hb]; decide), keyV_len, hb]; rfl) w
  obtain ⟨iu, hiu, hsu⟩ : ∃ i, Try.prog.info? 5 = some i ∧ i.size = 1 := by
    have h : (Try.prog.info? 5).map (·.size) = some 1 := by kernel_rfl
    exact Option.map_eq_some_iff.1 h
  have k0 := run_equalIn_u8s (P := Try.prog) w d (t := 46) (e := 5) (n := 32) Try.underlying46 Try.underlying5 hiu hsu (intsU a.key) (intsU b.key) (by unfold intsU; rw [List.length_map, ha]) (by unfold intsU; rw [List.length_map, hb])
  have kd : decide (intsU a.key = intsU b.key) = decide (a.key = b.key) := decide_eq_decide.2 ⟨intsU_inj, fun h => by rw [h]⟩
  rw [kd] at k0
  have ki : ∀ x y, (Op.equalIn (d + 2) 3 (.int .i64 x) (.int .i64 y)).run Try.prog w = .ok (x == y) w := fun x y => run_equalIn_int (P := Try.prog) w (d + 1) 3 .i64 .i64 x y Try.underlying3
  have hab : decide (a = b) = (decide (a.key = b.key) && (decide (a.place = b.place) && (decide (a.blocks = b.blocks) && decide (a.refs = b.refs)))) := by
    rw [Bool.eq_iff_iff]
    simp only [Bool.and_eq_true, decide_eq_true_eq]
    exact ⟨fun h => by rw [h]; exact ⟨rfl, rfl, rfl, rfl⟩, fun h => Ent.ext' h.1 h.2.1 h.2.2.1 h.2.2.2⟩
  rw [hab]
  obtain ⟨L, hL⟩ : ∃ L, (Try.prog.fieldsOf 48).toList = L := ⟨_, rfl⟩
  rw [hL] at h2 ⊢
  clear hL h1 h3 hab kd
  rcases L with _ | ⟨f0, _ | ⟨f1, _ | ⟨f2, _ | ⟨f3, _ | ⟨f4, L⟩⟩⟩⟩⟩ <;> simp only [List.map_cons, List.map_nil, List.cons.injEq, Prod.mk.injEq, reduceCtorEq, and_false, and_true] at h2
  obtain ⟨⟨n0, t0, o0⟩, ⟨n1, t1, o1⟩, ⟨n2, t2, o2⟩, n3, t3, o3⟩ := h2
  have m0 : f0.name ≠ "_" := by rw [n0]; decide
  have m1 : f1.name ≠ "_" := by rw [n1]; decide
  have m2 : f2.name ≠ "_" := by rw [n2]; decide
  have m3 : f3.name ≠ "_" := by rw [n3]; decide
  have hfin : (Op.eqFields (d + 2) (rowE a) (rowE b) [f0, f1, f2, f3]).run Try.prog w = .ok (decide (a.key = b.key) && ((a.place == b.place) && ((a.blocks == b.blocks) && ((a.refs == b.refs) && true)))) w :=
    eqFields_step m0 (by rw [t0, o0]; exact u) (by rw [t0, o0]; exact u') (by rw [t0]; exact k0)
      (eqFields_step m1 (by rw [t1, o1]; exact c1) (by rw [t1, o1]; exact x1) (by rw [t1]; exact ki _ _)
        (eqFields_step m2 (by rw [t2, o2]; exact c2) (by rw [t2, o2]; exact x2) (by rw [t2]; exact ki _ _)
          (eqFields_step m3 (by rw [t3, o3]; exact c3) (by rw [t3, o3]; exact x3) (by rw [t3]; exact ki _ _) rfl)))
  have e : ∀ x y : Int, (x == y) = decide (x = y) := fun x y => by rw [Bool.eq_iff_iff]; simp
  rw [hfin, Bool.and_true, e, e, e]
theorem run_eq_ent (a b : Ent) (ha : a.key.length = 32) (hb : b.key.length = 32) (w : World) : (Op.equal 48 (.agg (rowE a)) (.agg (rowE b))).run Try.prog w = .ok (decide (a = b)) w := by
  have h := run_equalIn_ent 9997 a b ha hb w
  rw [Op.equal, Op.maxDepth]
  exact h
theorem run_neq_ent (a b : Ent) (ha : a.key.length = 32) (hb : b.key.length = 32) (w : World) : (binOp .neq 48 (.agg (encE a).toArray) (.agg (encE b).toArray)).run Try.prog w = .ok (.bool (!decide (a = b))) w := by
  have h := run_eq_ent a b ha hb w
  unfold rowE at h
  simp only [binOp, Sem.run_bind, h, Result.andThen_ok, Sem.run_pure]
theorem run_neq_blk (a b : List UInt8) (ha : a.length = 128) (hb : b.length = 128) (w : World) : (binOp .neq 43 (.agg (keyV a).toArray) (.agg (keyV b).toArray)).run Try.prog w = .ok (.bool (!decide (a = b))) w := by
  have h := run_neq_u8s (P := Try.prog) w (t := 43) (e := 5) (n := 128) Try.underlying43 Try.underlying5 (by kernel_rfl) (intsU a) (intsU b) (by unfold intsU; rw [List.length_map, ha]) (by unfold intsU; rw [List.length_map, hb])
  rw [← rowU_u8s, ← rowU_u8s] at h
  rw [show decide (a = b) = decide (intsU a = intsU b) from decide_eq_decide.2 ⟨fun h => by rw [h], intsU_inj⟩]
  exact h
end Go.Proofs.Ytomgjapjeckokaa
namespace Go.Proofs.Ytomgjapjeckokaa
open Go.RowKit Go.Shelf Go.Lib

set_option maxRecDepth 100000 in
set_option maxHeartbeats 1000000 in
theorem Entries_any (l m : List (Ent)) (v1 v2 : Value) (w : World) (h1 : Sl w 35 encE v1 l) (h2 : Sl w 35 encE v2 m) (ho1 : ∀ x ∈ l, x.key.length = 32) (ho2 : ∀ x ∈ m, x.key.length = 32) (hl : l.length ≤ 1000000) (_hm : m.length ≤ maxLen) :
    Calls Try.prog 17 #[v1, v2] w fun e w' => e = .returned (.bool (decide (l = m))) ∧ Below w.heap.size w w' := by
  obtain ⟨n₀, hn₀⟩ : ∃ n, w.heap.size = n := ⟨_, rfl⟩
  obtain ⟨p1, c1, rfl, -⟩ := h1.shape
  obtain ⟨p2, c2, rfl, -⟩ := h2.shape
  have hB1 : ∀ W, Below n₀ w W → Sl W 35 encE (.slice p1 l.length c1) l := fun W hB => (Kept.of_below (hn₀ ▸ hB : Below w.heap.size w W) 0).sl h1
  have hB2 : ∀ W, Below n₀ w W → Sl W 35 encE (.slice p2 m.length c2) m := fun W hB => (Kept.of_below (hn₀ ▸ hB : Below w.heap.size w W) 0).sl h2
  unfold maxLen at _hm
  obtain ⟨r, hr⟩ : ∃ r, decide (l = m) = r := ⟨_, rfl⟩
  rw [hr]
  by_cases hlen : l.length = m.length
  · obtain ⟨L, hL⟩ : ∃ x, l.length = x := ⟨_, rfl⟩
    rw [← hlen, hL] at hB2
    rw [← hlen, hL]
    rw [hL] at hB1 hl
    have B0 : Below n₀ w w := Below.refl _ _
    have hLm := hlen.symm.trans hL
    replace hL := hid hL
    replace hLm := hid hLm
    replace hr := hid hr
    replace hB1 := hid hB1
    replace hB2 := hid hB2
    clear h1 h2 hlen _hm
    rw [hn₀]
    go_enter Try.func17, Try.ntmps17
    go_wp2_with (fail)
    go_loopw [5] (fun iv wr => ∃ k : Nat, k ≤ L ∧ iv = .int .i64 k ∧ l.take k = m.take k ∧ Below n₀ w wr) (fun iv _ => L - (RowKit.intOf iv).toNat)
    case atStart => exact ⟨0, Nat.zero_le _, rfl, rfl, B0⟩
    case round =>
      obtain ⟨k, hkL, rfl, hacc, qB⟩ := hrel
      clear B0
      by_cases hlt : k < L
      · have hkI : (k : Int) < (L : Int) := by omega
        obtain ⟨xa, hxa⟩ : ∃ e, l[k]? = some e := ⟨_, List.getElem?_eq_getElem (by rw [hL.out]; omega)⟩
        obtain ⟨xb, hxb⟩ : ∃ e, m[k]? = some e := ⟨_, List.getElem?_eq_getElem (by rw [hLm.out]; omega)⟩
        have hoa := (fun x => ho1 x) xa (List.mem_of_getElem? hxa)
        have hob := (fun x => ho2 x) xb (List.mem_of_getElem? hxb)
        obtain ⟨b1, o1, d1, he1, -, -, hc1⟩ := (hB1.out _ qB).open (by rintro rfl; simp at hxa)
        obtain ⟨rfl, -, rfl⟩ := Value.slice.inj he1
        clear he1
        obtain ⟨b2, o2, d2, he2, -, -, hc2⟩ := (hB2.out _ qB).open (by rintro rfl; simp at hxb)
        obtain ⟨rfl, -, rfl⟩ := Value.slice.inj he2
        clear he2
        have hia : (Try.prog.info? 48).map (·.size) = some (encE xa).length := by rw [encE_len, hoa]; kernel_rfl
        have hib : (Try.prog.info? 48).map (·.size) = some (encE xb).length := by rw [encE_len, hob]; kernel_rfl
        have hst : (fun W => W.rangeAt b1 (o1 + k * 35) (encE xa) ∧ W.rangeAt b2 (o2 + k * 35) (encE xb)) wr.drew := ⟨hc1 k xa hxa, hc2 k xb hxb⟩
        have hq : ∀ W, (binOp .neq 48 (.agg (encE xa).toArray) (.agg (encE xb).toArray)).run Try.prog W = .ok (.bool (!decide (xa = xb))) W := fun W => run_neq_ent xa xb hoa hob W
        have hta : l.take (k + 1) = l.take k ++ [xa] := by rw [List.take_add_one, hxa]; rfl
        have htb : m.take (k + 1) = m.take k ++ [xb] := by rw [List.take_add_one, hxb]; rfl
        have hneq : xa ≠ xb → l ≠ m := fun h e => h (by rw [e, hxb] at hxa; exact (Option.some.inj hxa).symm)
        obtain ⟨d, hd⟩ : ∃ d, decide (xa = xb) = d := ⟨_, rfl⟩
        rw [hd] at hq
        replace hd := hid hd
        replace hneq := hid hneq
        replace hta := hid hta
        replace htb := hid htb
        replace hacc := hid hacc
        have qB2 := qB.drewN 1
        clear hc1 hc2 hxa hxb hoa hob
        go_upto_region 6 with (fail)
        refine wp_region_held_drew (S := (fun W => W.rangeAt b1 (o1 + k * 35) (encE xa) ∧ W.rangeAt b2 (o2 + k * 35) (encE xb))) (by kernel_rfl) hst (fun hHeld => ?_)
        refine tkH 0 (some 17) ?_ rfl (Or.inl ⟨by rfl, ?_⟩) ?_; rotate_left
        · intro w hSw; (try dsimp only at hSw); go_simp <;> with_reducible rfl
        try simp only [Act.put, aS, aZ, aC]
        refine tkH 1 (some 18) ?_ rfl (Or.inl ⟨by rfl, ?_⟩) ?_; rotate_left
        · intro w hSw; (try dsimp only at hSw); go_simp <;> with_reducible rfl
        try simp only [Act.put, aS, aZ, aC]
        refine tkH 2 (some 19) ?_ rfl (Or.inl ⟨by rfl, ?_⟩) ?_; rotate_left
        · intro w hSw; (try dsimp only at hSw); go_simp <;> with_reducible rfl
        try simp only [Act.put, aS, aZ, aC]
        refine tkH 3 (some 20) _ rfl (yieldsIf_load_mid (by rfl) 48 _ rfl b1 (o1 + k * 35) rfl (encE xa) _ (fun w h => h.1) Try.underlying48 rfl hia) ?_
        try simp only [Act.put, aS, aZ, aC]
        refine tkH 4 (some 21) ?_ rfl (Or.inl ⟨by rfl, ?_⟩) ?_; rotate_left
        · intro w hSw; (try dsimp only at hSw); go_simp <;> with_reducible rfl
        try simp only [Act.put, aS, aZ, aC]
        refine tkH 5 (some 22) ?_ rfl (Or.inl ⟨by rfl, ?_⟩) ?_; rotate_left
        · intro w hSw; (try dsimp only at hSw); go_simp <;> with_reducible rfl
        try simp only [Act.put, aS, aZ, aC]
        refine tkH 6 (some 23) ?_ rfl (Or.inl ⟨by rfl, ?_⟩) ?_; rotate_left
        · intro w hSw; (try dsimp only at hSw); go_simp <;> with_reducible rfl
        try simp only [Act.put, aS, aZ, aC]
        refine tkH 7 (some 24) _ rfl (yieldsIf_load_mid (by rfl) 48 _ rfl b2 (o2 + k * 35) rfl (encE xb) _ (fun w h => h.2) Try.underlying48 rfl hib) ?_
        try simp only [Act.put, aS, aZ, aC]
        refine tkH 8 (some 25) ?_ rfl (Or.inl ⟨by rfl, ?_⟩) ?_; rotate_left
        · intro w hSw; (try dsimp only at hSw); go_simp <;> with_reducible rfl
        try simp only [Act.put, aS, aZ, aC]
        refine wpAnyH_done (by kernel_rfl) ?_ _
        skip
        cases d with
        | true =>
          have hacc2 : l.take (k + 1) = m.take (k + 1) := by rw [hta.out, htb.out, hacc.out, of_decide_eq_true hd.out]
          replace hacc2 := hid hacc2
          replace qB2 : Hid (Below n₀ w wr.drew) := hid qB2
          clear hst hHeld hq qB
          go_wp2_with (fail)
          refine ⟨?_, ?_⟩
          · first | exact ⟨k + 1, by omega, by go_num, hacc2.out, qB2.out⟩ | ((repeat apply Exists.intro); refine ⟨?_, rfl⟩; exact ⟨k + 1, by omega, by go_num, hacc2.out, qB2.out⟩)
          · simp [RowKit.intOf]; omega
        | false =>
          have hr2 : r = false := by rw [← hr.out]; exact decide_eq_false (hneq.out (of_decide_eq_false hd.out))
          clear hst hHeld hq qB hr
          subst hr2
          go_wp2_with (fail)
          go_ret
          exact ⟨rfl, qB2⟩
      · obtain rfl : k = L := by omega
        have hr2 : r = true := by
          rw [← hr.out]
          refine decide_eq_true ?_
          rwa [List.take_of_length_le (by rw [hL.out]; omega), List.take_of_length_le (by rw [hLm.out]; omega)] at hacc
        clear hr hacc
        subst hr2
        go_wp2_with (fail)
        go_ret
        exact ⟨rfl, qB⟩
  · have hr2 : r = false := by rw [← hr]; exact decide_eq_false (fun e => hlen (by rw [e]))
    have hne : ¬ (l.length : Int) = (m.length : Int) := by omega
    subst hr2
    clear h1 h2 hB1 hB2 hr
    go_enter Try.func17, Try.ntmps17
    go_wp2_with (fail)
    go_ret
    exact ⟨rfl, Below.refl _ _⟩

set_option maxRecDepth 100000 in
set_option maxHeartbeats 1000000 in
theorem Blocks_any (l m : List (List UInt8)) (v1 v2 : Value) (w : World) (h1 : Sl w 128 keyV v1 l) (h2 : Sl w 128 keyV v2 m) (ho1 : ∀ x ∈ l, x.length = 128) (ho2 : ∀ x ∈ m, x.length = 128) (hl : l.length ≤ 1000000) (_hm : m.length ≤ maxLen) :
    Calls Try.prog 16 #[v1, v2] w fun e w' => e = .returned (.bool (decide (l = m))) ∧ Below w.heap.size w w' := by
  obtain ⟨n₀, hn₀⟩ : ∃ n, w.heap.size = n := ⟨_, rfl⟩
  obtain ⟨p1, c1, rfl, -⟩ := h1.shape
  obtain ⟨p2, c2, rfl, -⟩ := h2.shape
  have hB1 : ∀ W, Below n₀ w W → Sl W 128 keyV (.slice p1 l.length c1) l := fun W hB => (Kept.of_below (hn₀ ▸ hB : Below w.heap.size w W) 0).sl h1
  have hB2 : ∀ W, Below n₀ w W → Sl W 128 keyV (.slice p2 m.length c2) m := fun W hB => (Kept.of_below (hn₀ ▸ hB : Below w.heap.size w W) 0).sl h2
  unfold maxLen at _hm
  obtain ⟨r, hr⟩ : ∃ r, decide (l = m) = r := ⟨_, rfl⟩
  rw [hr]
  by_cases hlen : l.length = m.length
  · obtain ⟨L, hL⟩ : ∃ x, l.length = x := ⟨_, rfl⟩
    rw [← hlen, hL] at hB2
    rw [← hlen, hL]
    rw [hL] at hB1 hl
    have B0 : Below n₀ w w := Below.refl _ _
    have hLm := hlen.symm.trans hL
    replace hL := hid hL
    replace hLm := hid hLm
    replace hr := hid hr
    replace hB1 := hid hB1
    replace hB2 := hid hB2
    clear h1 h2 hlen _hm
    rw [hn₀]
    go_enter Try.func16, Try.ntmps16
    go_wp2_with (fail)
    go_loopw [5] (fun iv wr => ∃ k : Nat, k ≤ L ∧ iv = .int .i64 k ∧ l.take k = m.take k ∧ Below n₀ w wr) (fun iv _ => L - (RowKit.intOf iv).toNat)
    case atStart => exact ⟨0, Nat.zero_le _, rfl, rfl, B0⟩
    case round =>
      obtain ⟨k, hkL, rfl, hacc, qB⟩ := hrel
      clear B0
      by_cases hlt : k < L
      · have hkI : (k : Int) < (L : Int) := by omega
        obtain ⟨xa, hxa⟩ : ∃ e, l[k]? = some e := ⟨_, List.getElem?_eq_getElem (by rw [hL.out]; omega)⟩
        obtain ⟨xb, hxb⟩ : ∃ e, m[k]? = some e := ⟨_, List.getElem?_eq_getElem (by rw [hLm.out]; omega)⟩
        have hoa := (fun x => ho1 x) xa (List.mem_of_getElem? hxa)
        have hob := (fun x => ho2 x) xb (List.mem_of_getElem? hxb)
        obtain ⟨b1, o1, d1, he1, -, -, hc1⟩ := (hB1.out _ qB).open (by rintro rfl; simp at hxa)
        obtain ⟨rfl, -, rfl⟩ := Value.slice.inj he1
        clear he1
        obtain ⟨b2, o2, d2, he2, -, -, hc2⟩ := (hB2.out _ qB).open (by rintro rfl; simp at hxb)
        obtain ⟨rfl, -, rfl⟩ := Value.slice.inj he2
        clear he2
        have hia : (Try.prog.info? 43).map (·.size) = some (keyV xa).length := by rw [keyV_len, hoa]; kernel_rfl
        have hib : (Try.prog.info? 43).map (·.size) = some (keyV xb).length := by rw [keyV_len, hob]; kernel_rfl
        have hst : (fun W => W.rangeAt b1 (o1 + k * 128) (keyV xa) ∧ W.rangeAt b2 (o2 + k * 128) (keyV xb)) wr.drew := ⟨hc1 k xa hxa, hc2 k xb hxb⟩
        have hq : ∀ W, (binOp .neq 43 (.agg (keyV xa).toArray) (.agg (keyV xb).toArray)).run Try.prog W = .ok (.bool (!decide (xa = xb))) W := fun W => run_neq_blk xa xb hoa hob W
        have hta : l.take (k + 1) = l.take k ++ [xa] := by rw [List.take_add_one, hxa]; rfl
        have htb : m.take (k + 1) = m.take k ++ [xb] := by rw [List.take_add_one, hxb]; rfl
        have hneq : xa ≠ xb → l ≠ m := fun h e => h (by rw [e, hxb] at hxa; exact (Option.some.inj hxa).symm)
        obtain ⟨d, hd⟩ : ∃ d, decide (xa = xb) = d := ⟨_, rfl⟩
        rw [hd] at hq
        replace hd := hid hd
        replace hneq := hid hneq
        replace hta := hid hta
        replace htb := hid htb
        replace hacc := hid hacc
        have qB2 := qB.drewN 1
        clear hc1 hc2 hxa hxb hoa hob
        go_upto_region 6 with (fail)
        refine wp_region_held_drew (S := (fun W => W.rangeAt b1 (o1 + k * 128) (keyV xa) ∧ W.rangeAt b2 (o2 + k * 128) (keyV xb))) (by kernel_rfl) hst (fun hHeld => ?_)
        refine tkH 0 (some 17) ?_ rfl (Or.inl ⟨by rfl, ?_⟩) ?_; rotate_left
        · intro w hSw; (try dsimp only at hSw); go_simp <;> with_reducible rfl
        try simp only [Act.put, aS, aZ, aC]
        refine tkH 1 (some 18) ?_ rfl (Or.inl ⟨by rfl, ?_⟩) ?_; rotate_left
        · intro w hSw; (try dsimp only at hSw); go_simp <;> with_reducible rfl
        try simp only [Act.put, aS, aZ, aC]
        refine tkH 2 (some 19) ?_ rfl (Or.inl ⟨by rfl, ?_⟩) ?_; rotate_left
        · intro w hSw; (try dsimp only at hSw); go_simp <;> with_reducible rfl
        try simp only [Act.put, aS, aZ, aC]
        refine tkH 3 (some 20) _ rfl (yieldsIf_load_mid (by rfl) 43 _ rfl b1 (o1 + k * 128) rfl (keyV xa) _ (fun w h => h.1) Try.underlying43 rfl hia) ?_
        try simp only [Act.put, aS, aZ, aC]
        refine tkH 4 (some 21) ?_ rfl (Or.inl ⟨by rfl, ?_⟩) ?_; rotate_left
        · intro w hSw; (try dsimp only at hSw); go_simp <;> with_reducible rfl
        try simp only [Act.put, aS, aZ, aC]
        refine tkH 5 (some 22) ?_ rfl (Or.inl ⟨by rfl, ?_⟩) ?_; rotate_left
        · intro w hSw; (try dsimp only at hSw); go_simp <;> with_reducible rfl
        try simp only [Act.put, aS, aZ, aC]
        refine tkH 6 (some 23) ?_ rfl (Or.inl ⟨by rfl, ?_⟩) ?_; rotate_left
        · intro w hSw; (try dsimp only at hSw); go_simp <;> with_reducible rfl
        try simp only [Act.put, aS, aZ, aC]
        refine tkH 7 (some 24) _ rfl (yieldsIf_load_mid (by rfl) 43 _ rfl b2 (o2 + k * 128) rfl (keyV xb) _ (fun w h => h.2) Try.underlying43 rfl hib) ?_
        try simp only [Act.put, aS, aZ, aC]
        refine tkH 8 (some 25) ?_ rfl (Or.inl ⟨by rfl, ?_⟩) ?_; rotate_left
        · intro w hSw; (try dsimp only at hSw); go_simp <;> with_reducible rfl
        try simp only [Act.put, aS, aZ, aC]
        refine wpAnyH_done (by kernel_rfl) ?_ _
        skip
        cases d with
        | true =>
          have hacc2 : l.take (k + 1) = m.take (k + 1) := by rw [hta.out, htb.out, hacc.out, of_decide_eq_true hd.out]
          replace hacc2 := hid hacc2
          replace qB2 : Hid (Below n₀ w wr.drew) := hid qB2
          clear hst hHeld hq qB
          go_wp2_with (fail)
          refine ⟨?_, ?_⟩
          · first | exact ⟨k + 1, by omega, by go_num, hacc2.out, qB2.out⟩ | ((repeat apply Exists.intro); refine ⟨?_, rfl⟩; exact ⟨k + 1, by omega, by go_num, hacc2.out, qB2.out⟩)
          · simp [RowKit.intOf]; omega
        | false =>
          have hr2 : r = false := by rw [← hr.out]; exact decide_eq_false (hneq.out (of_decide_eq_false hd.out))
          clear hst hHeld hq qB hr
          subst hr2
          go_wp2_with (fail)
          go_ret
          exact ⟨rfl, qB2⟩
      · obtain rfl : k = L := by omega
        have hr2 : r = true := by
          rw [← hr.out]
          refine decide_eq_true ?_
          rwa [List.take_of_length_le (by rw [hL.out]; omega), List.take_of_length_le (by rw [hLm.out]; omega)] at hacc
        clear hr hacc
        subst hr2
        go_wp2_with (fail)
        go_ret
        exact ⟨rfl, qB⟩
  · have hr2 : r = false := by rw [← hr]; exact decide_eq_false (fun e => hlen (by rw [e]))
    have hne : ¬ (l.length : Int) = (m.length : Int) := by omega
    subst hr2
    clear h1 h2 hB1 hB2 hr
    go_enter Try.func16, Try.ntmps16
    go_wp2_with (fail)
    go_ret
    exact ⟨rfl, Below.refl _ _⟩
end Go.Proofs.Ytomgjapjeckokaa
namespace Go.Proofs.Ytomgjapjeckokaa
open Go.RowKit Go.Shelf Go.Lib

theorem posL_le (l : List Ent) (key : List UInt8) : posL l key ≤ l.length := List.findIdx_le_length
/-- what Insert and Remove answer: nothing and an error's number, or a list of their own -/
def AnsI (bad : Bool) (k : Int) (w' : World) (base n : Nat) (X : List Value) (v : Value) (er : Int) : Prop := (bad = true ∧ v = .slice none 0 0 ∧ er = k) ∨ (bad = false ∧ w'.ownsRow base 48 35 v n X ∧ v ≠ .slice none 0 0 ∧ er = 0)
def insS (l : List Ent) (e : Ent) : List Ent := l.take (posL l e.key) ++ [e] ++ l.drop (posL l e.key)
def remS (l : List Ent) (key : List UInt8) : List Ent := l.take (posL l key) ++ l.drop (posL l key + 1)

set_option maxRecDepth 100000 in
set_option maxHeartbeats 1000000 in
theorem Insert_any (l : List Ent) (e : Ent) (p : Option Addr) (cap : Nat) (w : World) (hs : Sl w 35 encE (.slice p l.length cap) l) (hl : l.length ≤ 1000000) (hk : ∀ e ∈ l, e.key.length = 32) (hke : e.key.length = 32) (hm : MonoL l e.key) :
    Calls Try.prog 24 #[.slice p l.length cap, .agg (rowE e)] w fun r w' => ∃ v' er, r = .returned (.tuple #[v', .int .i64 er]) ∧ Below w.heap.size w w' ∧ AnsI (foundL l e.key) 1 w' w.heap.size (l.length + 1) ((insS l e).flatMap encE) v' er := by
  obtain ⟨n₀, hn₀⟩ : ∃ n, w.heap.size = n := ⟨_, rfl⟩
  have cF := hid (fun W (hW : Sl W 35 encE (.slice p l.length cap) l) => Find_any l e.key p cap W hW hl hk hke hm)
  have cW := hid (fun W (hW : Sl W 35 encE (.slice p l.length cap) l) => with_any l e (posL l e.key) p cap W hW (posL_le l e.key) hl hk hke)
  obtain ⟨fb, hfb⟩ : ∃ x, foundL l e.key = x := ⟨_, rfl⟩
  have hins : l.take (posL l e.key) ++ [e] ++ l.drop (posL l e.key) = insS l e := rfl
  rw [hins] at cW
  clear hins
  obtain ⟨ps, hps⟩ : ∃ x, posL l e.key = x := ⟨_, rfl⟩
  rw [hps] at cF cW
  rw [hfb] at cF ⊢
  obtain ⟨X, hX⟩ : ∃ x, (insS l e).flatMap encE = x := ⟨_, rfl⟩
  rw [hX] at cW ⊢
  obtain ⟨n, hn⟩ : ∃ n, l.length = n := ⟨_, rfl⟩
  rw [hn] at hs cF cW ⊢
  have cO := hid (fun W => of_any p n cap W)
  have g1 := World.alloc_heap_new w (.cells (rowE e) 48)
  rw [hn₀] at g1
  have s1 := (Kept.alloc 0 w (.cells (rowE e) 48)).sl hs
  have B1 : Below n₀ w (w.alloc (.cells (rowE e) 48)) := by rw [← hn₀]; exact (Below.refl _ w).alloc (Nat.le_refl _) _
  have hi6 : (Try.prog.info? 48).map (·.size) = some (encE e).length := by rw [encE_len, hke]; kernel_rfl
  have hi7 : (Try.prog.info? 46).map (·.size) = some (keyV e.key).length := by rw [keyV_len, hke]; kernel_rfl
  clear hs hX hps
  replace hfb := hid hfb
  go_enter Try.func24, Try.ntmps24
  go_upto_region 1 with (fail)
  obtain ⟨W4, hW4⟩ : ∃ W : World, W = w.alloc (.cells (rowE e) 48) := ⟨_, rfl⟩
  rw [← hW4] at g1 s1 B1 ⊢
  clear hW4
  have hr := range_key (range_blk (cs := encE e) g1)
  replace s1 := hid s1
  go_wp2_with (refine wpList_load_mid rfl 46 _ rfl n₀ 0 rfl (keyV e.key) _ hr Try.underlying46 rfl hi7 ?_)
  refine (cF.out _ s1.out).mono ?_
  rintro r w2 ⟨rfl, b2⟩
  have g2 := (Kept.of_below b2 0).same _ _ g1 (.inl rfl)
  have s2 := (Kept.of_below b2 0).sl s1.out
  have B2 := B1.trans (b2.mono (by have := B1.size; omega))
  clear cF hr g1 s1 B1 b2
  cases fb with
  | true =>
    go_wp2_with (fail)
    go_ret2
    subst hn₀
    exact ⟨_, _, rfl, B2, .inl ⟨rfl, rfl, rfl⟩⟩
  | false =>
    go_upto_region 4 with (fail)
    have sW : Sl w2.drew 35 encE (.slice p n cap) l := (Kept.drewN 0 w2 1).sl s2
    have BW : Below n₀ w w2.drew := B2.drewN 1
    have hst : w2.drew.rangeAt n₀ 0 (encE e) := range_blk (w := w2.drew) (cs := encE e) g2
    clear g2 s2 B2
    refine wp_region_held_drew (S := (fun W => W.rangeAt n₀ 0 (encE e))) (by kernel_rfl) hst (fun hHeld => ?_)
    generalize w2.drew = W5 at *
    refine tkH 0 (some 16) ?_ rfl (Or.inl ⟨by rfl, ?_⟩) ?_; rotate_left
    · intro w hSw; (try dsimp only at hSw); go_simp <;> with_reducible rfl
    try simp only [Act.put, aS, aZ, aC]
    refine tkH 2 (some 18) ?_ rfl (Or.inl ⟨by rfl, ?_⟩) ?_; rotate_left
    · intro w hSw; (try dsimp only at hSw); go_simp <;> with_reducible rfl
    try simp only [Act.put, aS, aZ, aC]
    refine tkH 3 (some 19) _ rfl (yieldsIf_load_mid (by rfl) 48 _ rfl n₀ 0 rfl (encE e) _ (fun w h => h) Try.underlying48 rfl hi6) ?_
    try simp only [Act.put, aS, aZ, aC]
    refine wpAnyH_ready (rs := [1]) (by kernel_rfl) (by simp) ?_
    refine AllReadyH.cons rfl (fun K hK => ?_) AllReadyH.nil
    go_simp
    refine (cO.out _).mono ?_
    rintro r w2 ⟨rfl, b2⟩
    have k2 := Kept.of_below b2 0
    have s2 := k2.sl sW
    have B2 := BW.trans (b2.mono (by have := BW.size; omega))
    refine hK.out _ _ (k2.range hHeld) (fun hHeld => ?_)
    clear hK K
    try simp only [Act.put, aS, aZ, aC]
    refine wpAnyH_ready (rs := [4]) (by kernel_rfl) (by simp) ?_
    refine AllReadyH.cons rfl (fun K hK => ?_) AllReadyH.nil
    go_simp
    refine (cW.out _ s2).mono ?_
    rintro r w7 ⟨v7, rfl, o7, hn7, b7⟩
    have o7' := ownsRow_mono o7 (show n₀ ≤ _ by have := B2.size; omega)
    have B7 := B2.trans (b7.mono (by have := B2.size; omega))
    refine hK.out _ _ ((Kept.of_below b7 0).range hHeld) (fun hHeld => ?_)
    clear hK K
    try simp only [Act.put, aS, aZ, aC]
    refine tkH 5 (some 4) ?_ rfl (Or.inl ⟨by rfl, ?_⟩) ?_; rotate_left
    · intro w hSw; (try dsimp only at hSw); go_simp <;> with_reducible rfl
    try simp only [Act.put, aS, aZ, aC]
    refine tkH 6 (some 5) ?_ rfl (Or.inl ⟨by rfl, ?_⟩) ?_; rotate_left
    · intro w hSw; (try dsimp only at hSw); go_simp <;> with_reducible rfl
    try simp only [Act.put, aS, aZ, aC]
    refine wpAnyH_done (by kernel_rfl) ?_ _
    go_wp2_with (fail)
    go_ret2
    subst hn₀
    exact ⟨v7, _, rfl, B7, .inr ⟨rfl, o7', hn7, rfl⟩⟩

set_option maxRecDepth 100000 in
set_option maxHeartbeats 1000000 in
theorem Remove_any (l : List Ent) (key : List UInt8) (p : Option Addr) (cap : Nat) (w : World) (hs : Sl w 35 encE (.slice p l.length cap) l) (hl : l.length ≤ 1000000) (hk : ∀ e ∈ l, e.key.length = 32) (hke : key.length = 32) (hm : MonoL l key) :
    Calls Try.prog 25 #[.slice p l.length cap, .agg (rowU key)] w fun r w' => ∃ v' er, r = .returned (.tuple #[v', .int .i64 er]) ∧ Below w.heap.size w w' ∧ AnsI (!foundL l key) 19 w' w.heap.size (l.length - 1) ((remS l key).flatMap encE) v' er := by
  obtain ⟨n₀, hn₀⟩ : ∃ n, w.heap.size = n := ⟨_, rfl⟩
  have cF := hid (fun W (hW : Sl W 35 encE (.slice p l.length cap) l) => Find_any l key p cap W hW hl hk hke hm)
  have cW := hid (fun W (hp : posL l key < l.length) (hW : Sl W 35 encE (.slice p l.length cap) l) => without_any l (posL l key) p cap W hW hp hl hk)
  obtain ⟨fb, hfb⟩ : ∃ x, foundL l key = x := ⟨_, rfl⟩
  have hpl : fb = true → posL l key < l.length := fun h => by rw [h] at hfb; unfold foundL at hfb; simp only [Bool.and_eq_true, decide_eq_true_eq] at hfb; exact hfb.1
  have hins : l.take (posL l key) ++ l.drop (posL l key + 1) = remS l key := rfl
  rw [hins] at cW
  clear hins
  obtain ⟨ps, hps⟩ : ∃ x, posL l key = x := ⟨_, rfl⟩
  rw [hps] at cF cW hpl
  rw [hfb] at cF ⊢
  obtain ⟨X, hX⟩ : ∃ x, (remS l key).flatMap encE = x := ⟨_, rfl⟩
  rw [hX] at cW ⊢
  obtain ⟨n, hn⟩ : ∃ n, l.length = n := ⟨_, rfl⟩
  rw [hn] at hs cF cW hpl ⊢
  have cO := hid (fun W => of_any p n cap W)
  have g1 := World.alloc_heap_new w (.cells (rowU key) 46)
  rw [hn₀] at g1
  have s1 := (Kept.alloc 0 w (.cells (rowU key) 46)).sl hs
  have B1 : Below n₀ w (w.alloc (.cells (rowU key) 46)) := by rw [← hn₀]; exact (Below.refl _ w).alloc (Nat.le_refl _) _
  have hi7 : (Try.prog.info? 46).map (·.size) = some (keyV key).length := by rw [keyV_len, hke]; kernel_rfl
  clear hs hX hps
  replace hfb := hid hfb
  replace hpl := hid hpl
  go_enter Try.func25, Try.ntmps25
  go_upto_region 1 with (fail)
  obtain ⟨W4, hW4⟩ : ∃ W : World, W = w.alloc (.cells (rowU key) 46) := ⟨_, rfl⟩
  rw [← hW4] at g1 s1 B1 ⊢
  clear hW4
  have hr := range_blk (cs := keyV key) g1
  replace s1 := hid s1
  go_wp2_with (refine wpList_load_mid rfl 46 _ rfl n₀ 0 rfl (keyV key) _ hr Try.underlying46 rfl hi7 ?_)
  refine (cF.out _ s1.out).mono ?_
  rintro r w2 ⟨rfl, b2⟩
  have s2 := (Kept.of_below b2 0).sl s1.out
  have B2 := B1.trans (b2.mono (by have := B1.size; omega))
  clear cF hr g1 s1 B1 b2
  cases fb with
  | false =>
    go_wp2_with (fail)
    go_ret2
    subst hn₀
    exact ⟨_, _, rfl, B2, .inl ⟨rfl, rfl, rfl⟩⟩
  | true =>
    replace s2 := hid s2
    go_wp2_with (fail)
    refine (cO.out _).mono ?_
    rintro r w3 ⟨rfl, b3⟩
    have s3 := (Kept.of_below b3 0).sl s2.out
    have B3 := B2.trans (b3.mono (by have := B2.size; omega))
    replace s3 := hid s3
    go_wp2_with (fail)
    refine (cW.out _ (hpl.out (by first | trivial | rfl)) s3.out).mono ?_
    rintro r w7 ⟨v7, rfl, o7, hn7, b7⟩
    have o7' := ownsRow_mono o7 (show n₀ ≤ _ by have := B3.size; omega)
    have B7 := B3.trans (b7.mono (by have := B3.size; omega))
    go_wp2_with (fail)
    go_ret2
    subst hn₀
    exact ⟨v7, _, rfl, B7, .inr ⟨rfl, o7', hn7, rfl⟩⟩
end Go.Proofs.Ytomgjapjeckokaa
namespace Go.Proofs.Ytomgjapjeckokaa
open Go.RowKit Go.Shelf Go.Lib

def dg (b : UInt8) : List UInt8 := b :: List.replicate 31 0
def wE1 : Ent := ⟨dg 1, 9, 2, 0⟩
def wE2 : Ent := ⟨dg 2, 30, 1, 0⟩
def wE3 : Ent := ⟨dg 3, 5, 1, 0⟩
def wL : List Ent := [wE1, wE3]
theorem wL_good : goodI wL = true := by decide +kernel
theorem wL_goodL : goodL wL = true := by decide +kernel
theorem wL_ok : ∀ e ∈ wL, intOkE e := by
  intro e he
  rcases List.mem_cons.1 he with rfl | he
  · exact ⟨rfl, by decide, by decide, by decide, by decide⟩
  · obtain rfl := List.mem_singleton.1 he
    exact ⟨rfl, by decide, by decide, by decide, by decide⟩
theorem wL_key : ∀ e ∈ wL, e.key.length = 32 := fun e he => (wL_ok e he).1
theorem wL_pack : packS wL [20, 21] = ([sealB (encB wL), sealB (rootB [20])], 0) := by
  unfold packS
  rw [if_pos wL_good, if_neg (by decide), if_neg (by simp [wL]), if_pos (by decide +kernel)]
  rfl
theorem wL_unp : unpS [sealB (encB wL)] = some wL := by
  unfold unpS
  have h : unpTo [sealB (encB wL)] 1 = some wL := by
    rw [unpTo, unpTo, Option.bind_some, List.getD_cons_zero, decS_back wL_key wL_goodL, Option.bind_some, if_neg (by simp)]
    rfl
  rw [show [sealB (encB wL)].length = 1 from rfl, h, Option.bind_some, if_pos wL_good]
theorem mono_check {l : List Ent} {key : List UInt8} (h : (List.range l.length).all (fun b => (List.range (b + 1)).all fun a => !lessS (keyAt l b) key || lessS (keyAt l a) key) = true) : MonoL l key := by
  intro a b hab hb hl
  simp only [List.all_eq_true, List.mem_range] at h
  have h9 := h b hb a (by omega)
  rw [hl] at h9
  simpa using h9
theorem wL_mono : MonoL wL (dg 2) := mono_check (by decide +kernel)
theorem wL_find : posL wL (dg 2) = 1 ∧ foundL wL (dg 2) = false := by decide +kernel
theorem wL_ins : insS wL wE2 = [wE1, wE2, wE3] := by
  unfold insS
  rw [show wE2.key = dg 2 from rfl, wL_find.1]; rfl
def wM : List Ent := [wE1, wE2, wE3]
theorem wM_key : ∀ e ∈ wM, e.key.length = 32 := by
  intro e he
  rcases List.mem_cons.1 he with rfl | he
  · rfl
  · rcases List.mem_cons.1 he with rfl | he
    · rfl
    · obtain rfl := List.mem_singleton.1 he; rfl
theorem wM_mono : MonoL wM (dg 1) := mono_check (by decide +kernel)
theorem wM_find : posL wM (dg 1) = 0 ∧ foundL wM (dg 1) = true := by decide +kernel

theorem sl_takeG {α : Type} {enc : α → List Value} {w : World} {K b o c L k : Nat} {l : List α} (hs : Sl w K enc (.slice (some ⟨b, o, none⟩) L c) l) (hk : k ≤ l.length) : Sl w K enc (.slice (some ⟨b, o, none⟩) k c) (l.take k) := by
  have hlk : (l.take k).length = k := by simp; omega
  rcases hs with ⟨h, -⟩ | ⟨a, cap, h, h1, h2, h3, h4⟩
  · cases h
  · simp only [Value.slice.injEq, Option.some.injEq] at h
    obtain ⟨rfl, rfl, rfl⟩ := h
    refine .inr ⟨_, c, by rw [hlk], by rw [hlk]; omega, h2, fun _ => rfl, fun i x hx => h4 i x ?_⟩
    rw [List.getElem?_take] at hx
    split at hx
    · exact hx
    · cases hx
theorem wp_world {P : Program} {c : Code} {Q : Exit → Act → World → Prop} {a : Act} {w : World} {C C' : Array Value} {t : TypeId} (hC : C = C') (h : c.wp P Q a (w.alloc (.cells C' t))) : c.wp P Q a (w.alloc (.cells C t)) := hC ▸ h

set_option maxRecDepth 100000 in
set_option maxHeartbeats 4000000 in
theorem wakes_any (w : World) : Calls Try.prog 9 #[] w fun e w' => e = .returned (.bool true) ∧ Below w.heap.size w w' := by
  obtain ⟨n₀, hn₀⟩ : ∃ n, w.heap.size = n := ⟨_, rfl⟩
  go_enter Try.func9, Try.ntmps9
  go_upto_region 2 with (fail)
  refine wp_world (C' := (wL.flatMap encE).toArray) (by kernel_rfl) ?_
  obtain ⟨W1, hW1⟩ : ∃ V, V = w.alloc (.cells (wL.flatMap encE).toArray 48) := ⟨_, rfl⟩
  have g1 := World.alloc_heap_new w (.cells (wL.flatMap encE).toArray 48)
  have B1 : Below n₀ w (w.alloc (.cells (wL.flatMap encE).toArray 48)) := by rw [← hn₀]; exact (Below.refl _ w).alloc (Nat.le_refl _) _
  rw [← hW1] at g1 B1
  rw [← hW1]
  rw [hn₀] at g1
  have s1 : Sl W1 35 encE (.slice (some ⟨n₀, 0, none⟩) 2 2) wL := sl_of_block (l := wL) g1 (by rfl) (fun x hx => by rw [encE_len, wL_key x hx]) (Nat.le_refl _) (by decide)
  have z1 : W1.heap.size = n₀ + 1 := by rw [hW1, World.size_alloc, hn₀]
  clear hW1 g1
  (try rw [hn₀])
  have g2 := World.alloc_heap_new W1 (.cells #[.int .i64 20, .int .i64 21] 3)
  have k2 := Kept.alloc 0 W1 (.cells #[.int .i64 20, .int .i64 21] 3)
  have B2 := B1.alloc (by omega) (.cells #[.int .i64 20, .int .i64 21] 3)
  rw [z1] at g2
  have s2 := k2.sl s1
  have hp2 : Sl (W1.alloc (.cells #[.int .i64 20, .int .i64 21] 3)) 1 encI (.slice (some ⟨n₀ + 1, 0, none⟩) 2 2) [20, 21] := sl_of_block (l := [20, 21]) g2 rfl (fun _ _ => rfl) (Nat.le_refl _) (by decide)
  obtain ⟨W2, hW2⟩ : ∃ V, V = W1.alloc (.cells #[.int .i64 20, .int .i64 21] 3) := ⟨_, rfl⟩
  rw [← hW2] at s2 hp2 B2
  have cP := hid (Pack_any wL [20, 21] _ _ W2 s2 hp2 wL_ok (by decide) (by decide))
  rw [wL_pack] at cP
  clear g2 k2 s1 B1 hp2
  go_wp2_with (fail)
  rw [← hW2]
  clear hW2
  refine cP.out.mono ?_
  rintro r w3 ⟨v3, er3, rfl, b3, o3, he3⟩
  obtain rfl : er3 = 0 := he3
  have s3 := (Kept.of_below b3 0).sl s2
  have B3 := B2.trans (b3.mono (by have := B2.size; omega))
  clear cP b3 s2 B2 z1
  obtain ⟨X, hX⟩ : ∃ x, sealB (encB wL) = x := ⟨_, rfl⟩
  have hXl : X.length = 128 := by rw [← hX]; exact sealB_len (by decide)
  have hYl : (sealB (rootB [20])).length = 128 := sealB_len (by decide)
  have hun := wL_unp
  rw [hX] at o3 hun
  obtain ⟨Y, hY⟩ : ∃ x, sealB (rootB [20]) = x := ⟨_, rfl⟩
  rw [hY] at o3 hYl
  have o3' : w3.ownsRow W2.heap.size 43 128 v3 2 ([X, Y].flatMap keyV) := o3
  obtain ⟨g3, c3, rfl⟩ := ownsRow_succ o3'
  have hc3 : (2 : Nat) ≤ c3 := by obtain ⟨p, c, h, h1, -⟩ := owns_shape o3'; cases h; exact h1
  have sB3 := sl_of_owns (enc := keyV) (l := [X, Y]) (fun x hx => by
    rcases List.mem_cons.1 hx with rfl | hx
    · rw [keyV_len, hXl]
    · obtain rfl := List.mem_singleton.1 hx; rw [keyV_len, hYl]) o3
  have sX : Sl w3 128 keyV (.slice (some ⟨g3, 0, none⟩) 1 c3) [X] := sl_takeG sB3 (k := 1) (by simp)
  have cU := hid (Unpack_any [X] _ w3 sX (fun b hb => by obtain rfl := List.mem_singleton.1 hb; exact hXl) (by simp))
  rw [hun] at cU
  have hc3i : (1 : Int) ≤ (c3 : Int) := by omega
  clear o3 o3' sB3 sX hun hX hY hXl hYl
  go_wp2_with (fail)
  refine cU.out.mono ?_
  rintro r w4 ⟨v4, er4, rfl, b4, o4, he4⟩
  obtain rfl : er4 = 0 := he4
  have s4 := (Kept.of_below b4 0).sl s3
  have B4 := B3.trans (b4.mono (by have := B3.size; omega))
  have m4 := sl_of_owns (enc := encE) (l := wL) (fun x hx => by rw [encE_len, wL_key x hx]) o4
  obtain ⟨p4, c4, rfl, -, -⟩ := owns_shape o4
  clear cU b4 s3 B3 o4
  have cF := hid (Find_any wL (dg 2) (some ⟨n₀, 0, none⟩) 2 w4 s4 (by decide) wL_key rfl wL_mono)
  rw [wL_find.1, wL_find.2] at cF
  go_wp2_with (fail)
  refine cF.out.mono ?_
  rintro r w5 ⟨rfl, b5⟩
  have s5 := (Kept.of_below b5 0).sl s4
  have m5 := (Kept.of_below b5 0).sl m4
  have B5 := B4.trans (b5.mono (by have := B4.size; omega))
  clear cF b5 s4 m4 B4
  have cI := hid (Insert_any wL wE2 (some ⟨n₀, 0, none⟩) 2 w5 s5 (by decide) wL_key rfl wL_mono)
  rw [show wE2.key = dg 2 from rfl, wL_find.2, wL_ins] at cI
  go_wp2_with (fail)
  refine cI.out.mono ?_
  rintro r w6 ⟨v6, er6, rfl, b6, ans6⟩
  rcases ans6 with ⟨h, -⟩ | ⟨-, o6, -, rfl⟩
  · cases h
  have s6 := (Kept.of_below b6 0).sl s5
  have m6 := (Kept.of_below b6 0).sl m5
  have B6 := B5.trans (b6.mono (by have := B5.size; omega))
  have o6' : w6.ownsRow w5.heap.size 48 35 v6 3 (wM.flatMap encE) := o6
  have n6 := sl_of_owns (enc := encE) (l := wM) (fun x hx => by rw [encE_len, wM_key x hx]) o6'
  obtain ⟨g6, c6, rfl⟩ := ownsRow_succ o6'
  clear cI b6 s5 m5 B5 o6 o6'
  have cR := hid (Remove_any wM (dg 1) (some ⟨g6, 0, none⟩) c6 w6 n6 (by decide) wM_key rfl wM_mono)
  rw [wM_find.2] at cR
  go_wp2_with (fail)
  refine cR.out.mono ?_
  rintro r w7 ⟨v7, er7, rfl, b7, ans7⟩
  rcases ans7 with ⟨h, -⟩ | ⟨-, o7, -, rfl⟩
  · cases h
  have s7 := (Kept.of_below b7 0).sl s6
  have m7 := (Kept.of_below b7 0).sl m6
  have n7 := (Kept.of_below b7 0).sl n6
  have B7 := B6.trans (b7.mono (by have := B6.size; omega))
  obtain ⟨g7, c7, rfl⟩ := ownsRow_succ (k := 1) o7
  clear cR b7 s6 m6 n6 B6 o7
  have cQ := hid (Remove_any wL (dg 2) (some ⟨n₀, 0, none⟩) 2 w7 s7 (by decide) wL_key rfl wL_mono)
  rw [wL_find.2] at cQ
  go_wp2_with (fail)
  refine cQ.out.mono ?_
  rintro r w8 ⟨v8, er8, rfl, b8, ans8⟩
  rcases ans8 with ⟨-, rfl, rfl⟩ | ⟨h, -⟩
  rotate_left
  · cases h
  have s8 := (Kept.of_below b8 0).sl s7
  have m8 := (Kept.of_below b8 0).sl m7
  have n8 := (Kept.of_below b8 0).sl n7
  have B8 := B7.trans (b8.mono (by have := B7.size; omega))
  clear cQ b8 s7 m7 n7 B7
  have cE := hid (Entries_any wL wL _ _ w8 m8 s8 wL_key wL_key (by decide) (by decide))
  rw [decide_eq_true (rfl : wL = wL)] at cE
  go_wp2_with (fail)
  refine cE.out.mono ?_
  rintro r w9 ⟨rfl, b9⟩
  have s9 := (Kept.of_below b9 0).sl s8
  have n9 := (Kept.of_below b9 0).sl n8
  have B9 := B8.trans (b9.mono (by have := B8.size; omega))
  have d9 : w9.cell? ⟨g6, 67, none⟩ = some (.int .i64 30) := by
    obtain ⟨b', o', c', he', -, -, hc⟩ := n9.open (by simp [wM])
    obtain ⟨h1, -⟩ := Value.slice.inj he'
    obtain ⟨rfl, rfl, -⟩ := Addr.mk.inj (Option.some.inj h1)
    exact (cell_place (hc 1 wE2 rfl) rfl).1
  clear cE b9 s8 m8 n8 B8 n9
  go_wp2_with (fail)
  refine (Size_any 3 _ (by decide)).mono ?_
  rintro r w10 ⟨rfl, rfl⟩
  rw [show sizeS 3 = 2 from rfl]
  go_wp2_with (fail)
  refine (Size_any 4 _ (by decide)).mono ?_
  rintro r w11 ⟨rfl, rfl⟩
  rw [show sizeS 4 = 3 from rfl]
  go_wp2_with (fail)
  refine (Size_any 0 _ (by decide)).mono ?_
  rintro r w12 ⟨rfl, rfl⟩
  rw [show sizeS 0 = 0 from rfl]
  have cG := hid (iGood_all wL _ w12 s9 wL_ok (by decide))
  rw [wL_good] at cG
  go_wp2_with (fail)
  refine cG.out.mono ?_
  rintro r w13 ⟨rfl, b13⟩
  have B13 := B9.trans (b13.mono (by have := B9.size; omega))
  clear cG s9 d9 b13 B9
  go_wp2_with (fail)
  go_ret
  subst hn₀
  exact ⟨rfl, B13⟩
end Go.Proofs.Ytomgjapjeckokaa
