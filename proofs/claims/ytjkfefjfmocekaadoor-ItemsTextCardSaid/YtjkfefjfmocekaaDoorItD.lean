/- The walks of items.beginning and of the iterator of a part's items. -/
import Derived.Test.YtjkfefjfmocekaaDoorItB
import Derived.Test.YtjkfefjfmocekaaDoorLaw2
namespace Go.Proofs.YtjkfefjfmocekaaDoor
open Go.RowKit Go.Shelf
attribute [local go_sem] Oper.semAt_some

theorem owns_lit (w : World) (base : Nat) (e : TypeId) (size n : Nat) (cs : List Value) (hb : base ≤ w.heap.size) (hl : cs.length = n * size) (hn : n ≤ maxLen) : (w.alloc (.cells cs.toArray e)).ownsRow base e size (.slice (some ⟨w.heap.size, 0, none⟩) n n) n cs :=
  ⟨hl, .inr ⟨w.heap.size, n, cs.toArray, rfl, hb, World.alloc_heap_new w _, Nat.le_refl _, hn, by simpa using hl, by simp [← hl]⟩⟩
theorem boxS_any (s : ByteArray) (w : World) (hs : s.size ≤ 1000000) (hT : Tabs w) : Calls Tryd.prog 22 #[.string s] w fun e w' => e = .returned (.agg #[.int .i64 1, .int .i64 (tm s), .int .i64 0, .int .i64 0, .int .i64 0, .string s]) ∧ Below w.heap.size w w' := box_any s w hs hT
theorem spaceS_any (w : World) : Calls Tryd.prog 26 #[] w fun e w' => e = .returned (.agg #[.int .i64 2, .int .i64 4, .int .i64 2, .int .i64 1, .int .i64 0, .string ⟨#[]⟩]) ∧ Below w.heap.size w w' := space_any w
theorem tieS_any (w : World) : Calls Tryd.prog 33 #[] w fun e w' => e = .returned (.agg #[.int .i64 2, .int .i64 4, .int .i64 0, .int .i64 0, .int .i64 0, .string ⟨#[]⟩]) ∧ Below w.heap.size w w' := tie_any w

set_option maxRecDepth 100000 in
set_option maxHeartbeats 2000000 in
theorem beginning_any (kind : Int) (wv : Value) (a b c d ind : Int) (w : World) (hT : Tabs w) :
    Calls Tryd.prog 25 #[.agg #[.int .i64 kind, wv], .agg #[.int .i64 a, .int .i64 b, .int .i64 c, .int .i64 d, .int .i64 ind]] w fun e w' => ∃ v, e = .returned v ∧ w'.ownsRow w.heap.size 34 6 v (beginI kind ind).length ((beginI kind ind).flatMap encIt) ∧ Below w.heap.size w w' := by
  have cB := hid (fun W (h : Below w.heap.size w W) => boxS_any ⟨#[42]⟩ W (by decide) (hT.below h))
  have hbg : beginI kind ind = if kind = 1 ∧ 0 < ind then [⟨1, ind, 0, 0, 0, eb0⟩] else if kind = 3 then [boxT ⟨#[42]⟩, tieT] else [] := rfl
  have hbt : encIt (boxT ⟨#[42]⟩) = [.int .i64 1, .int .i64 (tm ⟨#[42]⟩), .int .i64 0, .int .i64 0, .int .i64 0, .string ⟨#[42]⟩] := rfl
  have hB2 : Below w.heap.size w ((w.alloc (.cells #[.int .i64 kind, wv] 24)).alloc (.cells #[.int .i64 a, .int .i64 b, .int .i64 c, .int .i64 d, .int .i64 ind] 26)) := ((Below.refl w.heap.size w).alloc (Nat.le_refl _) _).alloc (by simp) _
  replace hbg := hid hbg
  generalize beginI kind ind = L at *
  generalize boxT ⟨#[42]⟩ = bt at *
  generalize tm ⟨#[42]⟩ = n at *
  go_enter Tryd.func25, Tryd.ntmps25
  by_cases h1 : kind = 1
  · subst h1
    by_cases h2 : 0 < ind
    · go_wp2_with (fail)
      go_ret
      refine ⟨_, rfl, ?_, hB2.alloc hB2.size _⟩
      rw [show L = [⟨1, ind, 0, 0, 0, eb0⟩] by rw [hbg.out]; simp [h2]]
      have := owns_lit ((w.alloc (.cells #[.int .i64 1, wv] 24)).alloc (.cells #[.int .i64 a, .int .i64 b, .int .i64 c, .int .i64 d, .int .i64 ind] 26)) w.heap.size 34 6 1 [.int .i64 1, .int .i64 ind, .int .i64 0, .int .i64 0, .int .i64 0, .string ⟨#[]⟩] hB2.size rfl (by unfold maxLen; omega)
      simpa [encIt, eb0] using this
    · go_wp2_with (fail)
      go_ret
      refine ⟨_, rfl, ?_, hB2⟩
      rw [show L = [] by rw [hbg.out]; simp [h2]]
      exact World.ownsRow_nil _ _ _ _
  · by_cases h3 : kind = 3
    · subst h3
      go_wp2_with (fail)
      refine (cB.out _ hB2).mono ?_
      rintro e w3 ⟨rfl, b3⟩
      have B3 := hB2.trans (b3.mono hB2.size)
      go_wp2_with (fail)
      refine (tieS_any _).mono ?_
      rintro e w4 ⟨rfl, b4⟩
      have B4 := B3.trans (b4.mono B3.size)
      have z4 := B4.size
      go_wp2_with (fail)
      go_ret
      refine ⟨_, rfl, ?_, B4.alloc z4 _⟩
      rw [show L = [bt, tieT] by rw [hbg.out]; simp]
      rw [show ([bt, tieT] : List It).flatMap encIt = encIt bt ++ encIt tieT by simp, hbt]
      exact owns_lit w4 w.heap.size 34 6 2 _ z4 rfl (by unfold maxLen; omega)
    · go_wp2_with (fail)
      go_ret
      refine ⟨_, rfl, ?_, hB2⟩
      rw [show L = [] by rw [hbg.out]; simp [h1, h3]]
      exact World.ownsRow_nil _ _ _ _

theorem encIt_enc (l : List It) : ∀ x ∈ l, (encIt x).length = 6 ∧ ∀ u ∈ encIt x, u.oneCell' = true := fun x _ => ⟨rfl, fun u hu => by
  simp only [encIt, List.mem_cons, List.not_mem_nil, or_false] at hu
  rcases hu with rfl | rfl | rfl | rfl | rfl | rfl <;> rfl⟩
/-- what the iterator reads: the part, the style, the words, the library's tables -/
structure AlR (kind : Int) (wv : Value) (ws : List ByteArray) (a b c d ind : Int) (p q : Nat) (W : World) : Prop where
  part : W.heap[p]? = some (.cells #[.int .i64 kind, wv] 24 (0, 0))
  style : W.heap[q]? = some (.cells #[.int .i64 a, .int .i64 b, .int .i64 c, .int .i64 d, .int .i64 ind] 26 (0, 0))
  words : Sl W 1 encS wv ws
  tabs : Tabs W
  asp : Asp W
theorem Tabs.kept {B : Nat} {w w' : World} (h : Tabs w) (hk : Kept B w w') : Tabs w' := ⟨fun c hc => hk.cell (h.1 c hc), fun i hi => ⟨hk.cell (h.2 i hi).1, hk.cell (h.2 i hi).2⟩⟩
theorem AlR.st {kind : Int} {wv : Value} {ws : List ByteArray} {a b c d ind : Int} {p q : Nat} (B : Nat) : St B (AlR kind wv ws a b c d ind p q) := fun _ _ hk ⟨h1, h2, h3, h4, h5⟩ => ⟨hk.same _ _ h1 (.inl rfl), hk.same _ _ h2 (.inl rfl), hk.sl h3, h4.kept hk, h5.kept hk⟩
end Go.Proofs.YtjkfefjfmocekaaDoor
