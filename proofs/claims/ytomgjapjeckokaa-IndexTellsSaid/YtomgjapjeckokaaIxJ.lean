/- The walks of bytes.Compare and sha's Less (printed by gen_ixj.py). -/
import Derived.Test.YtomgjapjeckokaaIxI
import Derived.Lib.Bytealg
namespace Go.Proofs.Ytomgjapjeckokaa
open Go.RowKit Go.Shelf Go.Lib

theorem load_bytes {P : Program} {w : World} {b : Nat} : ∀ (l : List UInt8) (o : Nat) (acc : ByteArray), (∀ i x, l[i]? = some x → w.cell? ⟨b, o + i, none⟩ = some (.int .u8 x.toNat)) →
    (Extern.Bytes.loadBytes ⟨b, o, none⟩ l.length acc).run P w = .ok (⟨(acc.data.toList ++ l).toArray⟩ : ByteArray) w
  | [], o, acc, _ => by
    simp [Extern.Bytes.loadBytes]
  | c :: r, o, acc, h => by
    have h0 := h 0 c rfl
    rw [Nat.add_zero] at h0
    have ih := load_bytes (P := P) (w := w) (b := b) r (o + 1) (acc.push c) (fun i x hx => by rw [Nat.add_assoc, Nat.add_comm 1 i]; exact h (i + 1) x (by simpa using hx))
    have hc : (c.toNat : Int).toNat.toUInt8 = c := by simp
    have hadd : (⟨b, o, none⟩ : Addr).add 1 = ⟨b, o + 1, none⟩ := Addr.add_mid b o 1
    have hl : (load ⟨b, o, none⟩).run P w = .ok (.int .u8 c.toNat) w := by
      go_simp
    rw [List.length_cons, Extern.Bytes.loadBytes]
    simp only [Sem.run_bind, hl, Result.andThen_ok, hadd, hc]
    rw [ih]
    congr 2
    simp
theorem sl_rowU {W : World} {b c : Nat} {l : List UInt8} {t : TypeId} {fr : Nat × Nat} (h : W.heap[b]? = some (.cells (rowU l) t fr)) (h1 : l.length ≤ c) (h2 : c ≤ maxLen) : Sl W 1 encU (.slice (some ⟨b, 0, none⟩) l.length c) l :=
  Sl.mk h1 h2 fun i x hx j v hj => by
    match j, hj with
    | 0, hj =>
      obtain rfl := Option.some.inj hj
      rw [Nat.zero_add, Nat.mul_one, Nat.add_zero]
      exact cell_blk h (rowU_at hx)
/-- does one stand ahead of the other? -/
def lessS (a b : List UInt8) : Bool := decide (compareBytes a b < 0)
theorem lessS_is (a b : List UInt8) : lessS a b = decide (compareBytes a b < 0) := rfl
theorem run_compare {P : Program} {w : World} {a b : List UInt8} {b1 o1 c1 b2 o2 c2 : Nat} (h1 : Sl w 1 encU (.slice (some ⟨b1, o1, none⟩) a.length c1) a) (h2 : Sl w 1 encU (.slice (some ⟨b2, o2, none⟩) b.length c2) b) (ha : a ≠ []) (hb : b ≠ []) :
    (Extern.BytealgCompare.compare #[.slice (some ⟨b1, o1, none⟩) a.length c1, .slice (some ⟨b2, o2, none⟩) b.length c2]).run P w = .ok (.int .i64 (compareBytes a b)) w := by
  have key : ∀ {l : List UInt8} {b o c : Nat}, Sl w 1 encU (.slice (some ⟨b, o, none⟩) l.length c) l → l ≠ [] → (Extern.Bytes.bytesOf (.slice (some ⟨b, o, none⟩) l.length c)).run P w = .ok (⟨l.toArray⟩ : ByteArray) w := by
    intro l b o c hs hl
    obtain ⟨b', o', c', he, -, -, hc⟩ := hs.open hl
    simp only [Value.slice.injEq, Option.some.injEq, Addr.mk.injEq, and_true] at he
    obtain ⟨⟨rfl, rfl⟩, -, rfl⟩ := he
    have := load_bytes (P := P) l o ByteArray.empty (fun i x hx => by have := rangeAt_one (hc i x hx); rwa [Nat.mul_one] at this)
    simpa [Extern.Bytes.bytesOf] using this
  change Sem.run P (do pure (goInt (Extern.BytealgCompare.cmp (← Extern.Bytes.bytesOf (.slice (some ⟨b1, o1, none⟩) a.length c1)) (← Extern.Bytes.bytesOf (.slice (some ⟨b2, o2, none⟩) b.length c2))))) w = _
  simp only [Sem.run_bind, key h1 ha, key h2 hb, Result.andThen_ok, Sem.run_pure]
  rw [cmp_eq]
  rfl

set_option maxRecDepth 100000 in
set_option maxHeartbeats 400000 in
theorem bcompare_any (a b : List UInt8) (b1 o1 n1 c1 b2 o2 n2 c2 : Nat) (w : World) (h1 : Sl w 1 encU (.slice (some ⟨b1, o1, none⟩) n1 c1) a) (h2 : Sl w 1 encU (.slice (some ⟨b2, o2, none⟩) n2 c2) b) (hn1 : n1 = a.length) (hn2 : n2 = b.length) (ha : a ≠ []) (hb : b ≠ []) :
    Calls Try.prog 66 #[.slice (some ⟨b1, o1, none⟩) n1 c1, .slice (some ⟨b2, o2, none⟩) n2 c2] w fun e w' => e = .returned (.int .i64 (compareBytes a b)) ∧ w' = w := by
  subst hn1 hn2
  have hr := run_compare (P := Try.prog) h1 h2 ha hb
  go_enter Try.func66, Try.ntmps66
  go_wp2
  rw [run_callFunc_extern Try.func72 (by kernel_rfl) (by kernel_rfl) (by kernel_rfl) (e := Extern.BytealgCompare.compare) (by kernel_rfl), hr]
  simp only [Result.andThen]
  rw [Oper.upon_value]
  go_wp2
  go_ret
  exact ⟨rfl, rfl⟩
set_option maxRecDepth 100000 in
set_option maxHeartbeats 400000 in
theorem Less_any (a b : List UInt8) (w : World) (ha : a.length = 32) (hb : b.length = 32) :
    Calls Try.prog 52 #[.agg (rowU a), .agg (rowU b)] w fun e w' => e = .returned (.bool (lessS a b)) ∧ Below w.heap.size w w' := by
  obtain ⟨n₀, hn₀⟩ : ∃ n, w.heap.size = n := ⟨_, rfl⟩
  have g1 := World.alloc_heap_new w (.cells (rowU a) 46)
  have hz : (w.alloc (.cells (rowU a) 46)).heap.size = n₀ + 1 := by rw [World.size_alloc, hn₀]
  have g2 := World.alloc_heap_new (w.alloc (.cells (rowU a) 46)) (.cells (rowU b) 46)
  rw [hz] at g2
  have g1' := (Kept.alloc 0 _ (.cells (rowU b) 46)).same _ _ g1 (.inl rfl)
  rw [hn₀] at g1'
  have B2 : Below n₀ w ((w.alloc (.cells (rowU a) 46)).alloc (.cells (rowU b) 46)) := by rw [← hn₀]; exact ((Below.refl _ w).alloc (Nat.le_refl _) _).alloc (by simp) _
  clear g1 hz
  go_enter Try.func52, Try.ntmps52
  go_upto_region 1 with (fail)
  obtain ⟨W1, hW1⟩ : ∃ W : World, W = (w.alloc (.cells (rowU a) 46)).alloc (.cells (rowU b) 46) := ⟨_, rfl⟩
  rw [← hW1] at g1' g2 B2 ⊢
  clear hW1
  have s1 := sl_rowU (c := 32) (show W1.drew.heap[n₀]? = _ from g1') (by omega) (by decide)
  have s2 := sl_rowU (c := 32) (show W1.drew.heap[n₀ + 1]? = _ from g2) (by omega) (by decide)
  rw [ha] at s1
  rw [hb] at s2
  have cC := hid (bcompare_any a b n₀ 0 32 32 (n₀ + 1) 0 32 32 W1.drew s1 s2 ha.symm hb.symm (by intro h; rw [h] at ha; cases ha) (by intro h; rw [h] at hb; cases hb))
  refine wp_region_any (by kernel_rfl) ?_
  try (change wpAny _ _ _ _ _ _ _ (World.drew _))
  refine wpAny_take (i := 0) (oi := ⟨some 5, _, _, _, _, _⟩) (v := ?_) rfl (by kernel_rfl) (by kernel_rfl) (by kernel_rfl) (fun _ _ _ h => h) (Or.inl ⟨by rfl, ?_⟩) ?_
  rotate_left
  · intro w; go_simp <;> with_reducible rfl
  simp only [Act.put, List.setIfInBounds_toArray, List.set_cons_zero, List.set_cons_succ]
  refine wpAny_take (i := 1) (oi := ⟨some 6, _, _, _, _, _⟩) (v := ?_) rfl (by kernel_rfl) (by kernel_rfl) (by kernel_rfl) (fun _ _ _ h => h) (Or.inl ⟨by rfl, ?_⟩) ?_
  rotate_left
  · intro w; go_simp <;> with_reducible rfl
  simp only [Act.put, List.setIfInBounds_toArray, List.set_cons_zero, List.set_cons_succ]
  refine wpAny_ready (rs := [2]) (by kernel_rfl) (by simp) ?_
  refine AllReady.cons rfl (fun K hK => ?_) AllReady.nil
  go_simp
  refine cC.out.mono ?_
  rintro e w9 ⟨rfl, rfl⟩
  first | refine hK _ _ ?_ | refine ⟨trivial, hK _ _ ?_⟩ | refine ⟨fun _ _ => trivial, hK _ _ ?_⟩
  clear hK K
  refine wpAny_take (i := 3) (oi := ⟨some 8, _, _, _, _, _⟩) (v := ?_) rfl (by kernel_rfl) (by kernel_rfl) (by kernel_rfl) (fun _ _ _ h => h) (Or.inl ⟨by rfl, ?_⟩) ?_
  rotate_left
  · intro w; go_simp <;> with_reducible rfl
  simp only [Act.put, List.setIfInBounds_toArray, List.set_cons_zero, List.set_cons_succ]
  refine wpAny_take (i := 4) (oi := ⟨some 4, _, _, _, _, _⟩) (v := ?_) rfl (by kernel_rfl) (by kernel_rfl) (by kernel_rfl) (fun _ _ _ h => h) (Or.inl ⟨by rfl, ?_⟩) ?_
  rotate_left
  · intro w; go_simp <;> with_reducible rfl
  simp only [Act.put, List.setIfInBounds_toArray, List.set_cons_zero, List.set_cons_succ]
  refine wpAny_done (by kernel_rfl) ?_ _
  go_wp2_with (fail)
  go_ret
  exact ⟨by rw [lessS_is]; rfl, hn₀ ▸ B2.drewN 1⟩
end Go.Proofs.Ytomgjapjeckokaa
