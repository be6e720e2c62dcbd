/- The walks of diff.Same, Kind, Place. -/
import Derived.Test.YtcjaeamfddhilaaDiffB
namespace Go.Proofs.Ytcjaeamfddhilaa
open Go.RowKit Go.Shelf
attribute [local go_sem] Oper.semAt_some

def same (l : List (Nat × Int)) : Int := (l.filter (fun x => x.2 == 0)).length
theorem same_hit (l : List (Nat × Int)) (x : Nat × Int) (h : x.2 = 0) : same (l ++ [x]) = same l + 1 := by simp [same, h]
theorem same_miss (l : List (Nat × Int)) (x : Nat × Int) (h : ¬ x.2 = 0) : same (l ++ [x]) = same l := by simp [same, h]
theorem same_bd (l : List (Nat × Int)) : 0 ≤ same l ∧ same l ≤ l.length := by
  have := List.length_filter_le (fun x : Nat × Int => x.2 == 0) l
  unfold same; omega

set_option maxRecDepth 100000 in
set_option maxHeartbeats 1000000 in
theorem Same_any (w : World) (va vb : Value) (a b : List (List Int)) (hx : ∀ x ∈ a, x.length = 32) (hy : ∀ x ∈ b, x.length = 32) (ha : Sl w 32 u8s va a) (hb : Sl w 32 u8s vb b) (la : a.length ≤ 1000) (lb : b.length ≤ 1000) :
    Calls Try.prog 12 #[va, vb] w fun e w' => e = .returned (.int .i64 (same (plList a b))) ∧ Below w.heap.size w w' := by
  obtain ⟨pa, ca, rfl, hla⟩ := ha.shape
  obtain ⟨pb, cb, rfl, hlb⟩ := hb.shape
  refine calls_of_marks Try.func12 rfl ?_
  simp only [Try.ntmps12, List.size_toArray, List.length_cons, List.length_nil, Nat.reduceAdd, Nat.reduceSub, Array.replicate_succ, Array.replicate_zero, List.push_toArray, List.append_toArray, List.nil_append, List.cons_append]
  gi_wp2_with (fail)
  refine ⟨trivial, rfl, (callsIn_wide.2 (places_any _ _ _ _ _ _ _ _ _ rfl rfl)).mono ?_⟩
  rintro e w' ⟨rfl, rfl⟩
  gi_wp2_with (fail)
  have bO := Boxed.new w 3 (.int .i64 0)
  have hB0 : Below w.heap.size w (((w.alloc (.cells #[.int .i64 0] 3)).alloc (.cells #[.slice pa a.length ca] 22)).alloc (.cells #[.slice pb b.length cb] 22)) :=
    (((Below.refl _ w).alloc (Nat.le_refl _) _).alloc (by simp) _).alloc (by simp; omega) _
  have kA : Kept w.heap.size w (((w.alloc (.cells #[.int .i64 0] 3)).alloc (.cells #[.slice pa a.length ca] 22)).alloc (.cells #[.slice pb b.length cb] 22)) := Kept.of_below hB0 _
  have cA := (Boxed.new (w.alloc (.cells #[.int .i64 0] 3)) 22 (.slice pa a.length ca)).alloc (.cells #[.slice pb b.length cb] 22)
  have cB := Boxed.new ((w.alloc (.cells #[.int .i64 0] 3)).alloc (.cells #[.slice pa a.length ca] 22)) 22 (.slice pb b.length cb)
  simp only [World.size_alloc] at cA cB
  refine range_p (act := ?act) rfl (enters_of Try.func16 (by kernel_rfl) rfl) (places1_seq (w.heap.size + 1) (w.heap.size + 2) _ _ a b hx hy) (fun _ => rfl)
    (fun pre W => Boxed W w.heap.size 3 (.int .i64 (same pre)) ∧
      (Boxed W (w.heap.size + 1) 22 (.slice pa a.length ca) ∧ Boxed W (w.heap.size + 2) 22 (.slice pb b.length cb)) ∧ Below w.heap.size w W)
    (fun _ _ _ => False)
    (fun s => St.and St.boxed (St.and (St.and St.boxed St.boxed) (St.below (by simp; omega) (Nat.le_refl _))))
    (fun _ _ _ _ _ h => h) (fun B => PlR.st B) (fun _ _ => St.pure _) (fun _ => St.pure _) (fun _ => St.pure _)
    ⟨(bO.alloc _).alloc _, ⟨cA, cB⟩, hB0⟩ ⟨cA.cell, cB.cell, kA.sl ha, kA.sl hb⟩ ?assign ?body ?done ?stop
  case assign =>
    intro l x W K hK
    dsimp only [plEnc]
    gi_wp2
    exact hK
  case body =>
    rintro l pre x W hl _ ⟨hv, ⟨b1, b2⟩, hB⟩ hR hadm
    obtain ⟨h1, h2, h3, h4⟩ := pl_adm hadm
    have H1 := hid h1
    clear h1
    have hc := hv.cell
    have hf := hv.frozen
    have hbd := same_bd pre
    have hpre : pre.length ≤ 1000 := by have := H1.out; omega
    by_cases hz : x.2 = 0
    · have hs := hid (same_hit pre x hz)
      have q : (x.2 == 0) = true := by simpa using hz
      clear hz
      gi_wp2
      have hB2 : Below w.heap.size w (W.setCell ⟨w.heap.size, 0, none⟩ (.int .i64 (same pre + 1))) := hB.setCell (p := ⟨w.heap.size, 0, none⟩) (Nat.le_refl _) _
      have c1 := b1.other (B' := w.heap.size) (by omega) (.int .i64 (same pre + 1))
      have c2 := b2.other (B' := w.heap.size) (by omega) (.int .i64 (same pre + 1))
      exact ⟨(KeepsOthers.setCell _ _ _).from _, ⟨c1.cell, c2.cell, (Kept.of_below hB2 0).sl ha, (Kept.of_below hB2 0).sl hb⟩, by rw [hs.out]; exact hv.set _, ⟨c1, c2⟩, hB2⟩
    · have hs := hid (same_miss pre x hz)
      have q : (x.2 == 0) = false := by simpa using hz
      clear hz
      gi_wp2
      exact ⟨KeepsFrom.refl _ _, hR, by rw [hs.out]; exact hv, ⟨b1, b2⟩, hB⟩
  case done =>
    rintro D ys W hD rfl ⟨hv, -, hB⟩ hR hK
    have hc := hv.cell
    gi_wp2
    refine leave1 hK (fun _ _ => results_tmp rfl _ _ _) ⟨rfl, ?_⟩
    exact (Kept.putObj (B := w.heap.size) (.deferred none) (by simp at hD; omega) hK rfl).below (Nat.le_refl _) (Nat.le_refl _) hB
  case stop =>
    rintro D c pre W _ _ h _
    exact h.elim

set_option maxHeartbeats 400000 in
theorem Kind_any (n : Int) (w : World) (h1 : -9223372036854775808 ≤ n) (h2 : n ≤ 9223372036854775807) :
    Calls Try.prog 10 #[.int .i64 n] w fun e w' => e = .returned (.int .i64 (kindN n)) ∧ w = w' := by
  by_cases h : 0 ≤ n
  · go_enter Try.func10, Try.ntmps10
    go_wp2
    all_goals go_ret
    all_goals exact ⟨ret_int (by unfold kindN; split <;> omega), rfl⟩
  · go_enter Try.func10, Try.ntmps10
    go_wp2
    all_goals go_ret
    all_goals exact ⟨ret_int (by unfold kindN; split <;> omega), rfl⟩

theorem kindN_bd (n : Int) : 0 ≤ kindN n ∧ kindN n ≤ 3 := by unfold kindN; split <;> omega

set_option maxHeartbeats 400000 in
theorem Place_any (n : Int) (w : World) (h1 : -9223372036854775808 ≤ n) (h2 : n ≤ 9223372036854775807) :
    Calls Try.prog 11 #[.int .i64 n] w fun e w' => e = .returned (.int .i64 (placeN n)) ∧ w = w' := by
  by_cases hk : kindN n = 0
  · have hp : placeN n = 0 := by simp [placeN, hk]
    have Hp := hid hp
    have q : (kindN n == 0) = true := by simpa using hk
    clear hk hp
    go_enter Try.func11, Try.ntmps11
    go_wp2_with (go_at_call 10; refine (Kind_any _ _ h1 h2).mono ?_; rintro e w' ⟨rfl, rfl⟩)
    go_ret
    exact ⟨ret_int Hp.out.symm, rfl⟩
  · have hp : placeN n = n / 4 := by simp [placeN, hk]
    have hn : 0 ≤ n := by
      have : ¬ n < 0 := fun h => hk (by unfold kindN; rw [if_neg (by omega)]; rfl)
      omega
    have Hp := hid hp
    have q : (kindN n == 0) = false := by simpa using hk
    clear hk hp
    go_enter Try.func11, Try.ntmps11
    go_wp2_with (go_at_call 10; refine (Kind_any _ _ h1 h2).mono ?_; rintro e w' ⟨rfl, rfl⟩)
    go_ret
    exact ⟨ret_int Hp.out.symm, rfl⟩

theorem Kind_at (n k : Int) (h : kindN n = k) (w : World) (h1 : -9223372036854775808 ≤ n) (h2 : n ≤ 9223372036854775807) :
    Calls Try.prog 10 #[.int .i64 n] w fun e w' => e = .returned (.int .i64 k) ∧ w = w' := h ▸ Kind_any n w h1 h2
theorem Place_at (n k : Int) (h : placeN n = k) (w : World) (h1 : -9223372036854775808 ≤ n) (h2 : n ≤ 9223372036854775807) :
    Calls Try.prog 11 #[.int .i64 n] w fun e w' => e = .returned (.int .i64 k) ∧ w = w' := h ▸ Place_any n w h1 h2
end Go.Proofs.Ytcjaeamfddhilaa
