/- The walks of items.all and Of, and of codexlaw11.Fair. -/
import Derived.Test.YtjkfefjfmocekaaDoorItE
namespace Go.Proofs.YtjkfefjfmocekaaDoor
open Go.RowKit Go.Shelf
attribute [local go_sem] Oper.semAt_some

theorem all_any (kind : Int) (wv : Value) (a b c d ind : Int) (w : World) :
    Calls Tryd.prog 14 #[.agg #[.int .i64 kind, wv], .agg #[.int .i64 a, .int .i64 b, .int .i64 c, .int .i64 d, .int .i64 ind]] w fun e w' =>
      e = .returned (.func (.func 24) #[] #[.pointer (some ⟨w.heap.size, 0, none⟩), .pointer (some ⟨w.heap.size + 1, 0, none⟩)]) ∧ w' = (w.alloc (.cells #[.int .i64 kind, wv] 24)).alloc (.cells #[.int .i64 a, .int .i64 b, .int .i64 c, .int .i64 d, .int .i64 ind] 26) := by
  go_enter Tryd.func14, Tryd.ntmps14
  go_wp2
  go_ret
  exact ⟨rfl, rfl⟩

set_option maxRecDepth 100000 in
set_option maxHeartbeats 2000000 in
theorem Of_any (kind : Int) (wv : Value) (ws : List ByteArray) (a b c d ind : Int) (w : World) (hws : ws.length ≤ 300) (hsz : ∀ s ∈ ws, s.size ≤ 1000) (hsl : Sl w 1 encS wv ws) (hT : Tabs w) (hR : Asp w) :
    Calls Tryd.prog 7 #[.agg #[.int .i64 kind, wv], .agg #[.int .i64 a, .int .i64 b, .int .i64 c, .int .i64 d, .int .i64 ind]] w fun e w' =>
      ∃ v, e = .returned v ∧ w'.ownsRow w.heap.size 34 6 v (itemsOf kind ind d ws).length ((itemsOf kind ind d ws).flatMap encIt) ∧ Below w.heap.size w w' := by
  have hof : itemsOf kind ind d ws = if kind < 1 ∨ 3 < kind then [] else itemsTo kind ind d ws ws.length := rfl
  have hlen := itemsTo_len kind ind d ws ws.length
  have hB2 : Below w.heap.size w ((w.alloc (.cells #[.int .i64 kind, wv] 24)).alloc (.cells #[.int .i64 a, .int .i64 b, .int .i64 c, .int .i64 d, .int .i64 ind] 26)) := ((Below.refl w.heap.size w).alloc (Nat.le_refl _) _).alloc (by simp) _
  have hcol := hid (fun (W : World) (p q : Nat) (hA : AlR kind wv ws a b c d ind p q W) => CollectM_any W 24 #[.pointer (some ⟨p, 0, none⟩), .pointer (some ⟨q, 0, none⟩)] (AlR kind wv ws a b c d ind p q) (itemsTo kind ind d ws ws.length) (by omega)
    (enters_of Tryd.func24 (by kernel_rfl) rfl) AlR.st (fun W2 h => AlR.st 0 _ _ (Kept.of_below h 0) hA) (all1_seq kind wv ws a b c d ind p q hws hsz))
  generalize itemsTo kind ind d ws ws.length = IL at *
  generalize itemsOf kind ind d ws = IO at *
  replace hof := hid hof
  go_enter Tryd.func7, Tryd.ntmps7
  by_cases h1 : kind < 1
  · go_wp2_with (fail)
    go_ret
    refine ⟨_, rfl, ?_, hB2⟩
    rw [show IO = [] by rw [hof.out, if_pos (.inl h1)]]
    exact World.ownsRow_nil _ _ _ _
  · have h1' : 1 ≤ kind := by omega
    by_cases h3 : 3 < kind
    · go_wp2_with (fail)
      go_ret
      refine ⟨_, rfl, ?_, hB2⟩
      rw [show IO = [] by rw [hof.out, if_pos (.inr h3)]]
      exact World.ownsRow_nil _ _ _ _
    · have h3' : kind ≤ 3 := by omega
      have hIO : IO = IL := by rw [hof.out, if_neg (by omega)]
      subst hIO
      go_wp2_with (fail)
      refine (all_any kind wv a b c d ind _).mono ?_
      rintro e w4 ⟨rfl, rfl⟩
      have hB4 : Below w.heap.size w ((((w.alloc (.cells #[.int .i64 kind, wv] 24)).alloc (.cells #[.int .i64 a, .int .i64 b, .int .i64 c, .int .i64 d, .int .i64 ind] 26)).alloc (.cells #[.int .i64 kind, wv] 24)).alloc (.cells #[.int .i64 a, .int .i64 b, .int .i64 c, .int .i64 d, .int .i64 ind] 26)) := (hB2.alloc hB2.size _).alloc (Nat.le_trans hB2.size (by simp)) _
      have g1 : ((((w.alloc (.cells #[.int .i64 kind, wv] 24)).alloc (.cells #[.int .i64 a, .int .i64 b, .int .i64 c, .int .i64 d, .int .i64 ind] 26)).alloc (.cells #[.int .i64 kind, wv] 24)).alloc (.cells #[.int .i64 a, .int .i64 b, .int .i64 c, .int .i64 d, .int .i64 ind] 26)).heap[w.heap.size + 2]? = some (.cells #[.int .i64 kind, wv] 24 (0, 0)) := by
        have := World.alloc_heap_new ((w.alloc (.cells #[.int .i64 kind, wv] 24)).alloc (.cells #[.int .i64 a, .int .i64 b, .int .i64 c, .int .i64 d, .int .i64 ind] 26)) (.cells #[.int .i64 kind, wv] 24)
        rw [World.size_alloc, World.size_alloc] at this
        exact (Kept.alloc 0 _ _).same _ _ this (.inl rfl)
      have g2 : ((((w.alloc (.cells #[.int .i64 kind, wv] 24)).alloc (.cells #[.int .i64 a, .int .i64 b, .int .i64 c, .int .i64 d, .int .i64 ind] 26)).alloc (.cells #[.int .i64 kind, wv] 24)).alloc (.cells #[.int .i64 a, .int .i64 b, .int .i64 c, .int .i64 d, .int .i64 ind] 26)).heap[w.heap.size + 2 + 1]? = some (.cells #[.int .i64 a, .int .i64 b, .int .i64 c, .int .i64 d, .int .i64 ind] 26 (0, 0)) := by
        have := World.alloc_heap_new (((w.alloc (.cells #[.int .i64 kind, wv] 24)).alloc (.cells #[.int .i64 a, .int .i64 b, .int .i64 c, .int .i64 d, .int .i64 ind] 26)).alloc (.cells #[.int .i64 kind, wv] 24)) (.cells #[.int .i64 a, .int .i64 b, .int .i64 c, .int .i64 d, .int .i64 ind] 26)
        rw [World.size_alloc, World.size_alloc, World.size_alloc] at this
        exact this
      have hA : AlR kind wv ws a b c d ind (w.heap.size + 2) (w.heap.size + 2 + 1) ((((w.alloc (.cells #[.int .i64 kind, wv] 24)).alloc (.cells #[.int .i64 a, .int .i64 b, .int .i64 c, .int .i64 d, .int .i64 ind] 26)).alloc (.cells #[.int .i64 kind, wv] 24)).alloc (.cells #[.int .i64 a, .int .i64 b, .int .i64 c, .int .i64 d, .int .i64 ind] 26)) :=
        ⟨g1, g2, (Kept.of_below hB4 0).sl hsl, hT.below hB4, hR.below hB4⟩
      have hc2 := hcol.out _ _ _ hA
      clear hcol hA g1 g2
      generalize (((w.alloc (.cells #[.int .i64 kind, wv] 24)).alloc (.cells #[.int .i64 a, .int .i64 b, .int .i64 c, .int .i64 d, .int .i64 ind] 26)).alloc (.cells #[.int .i64 kind, wv] 24)).alloc (.cells #[.int .i64 a, .int .i64 b, .int .i64 c, .int .i64 d, .int .i64 ind] 26) = W4 at *
      go_wp2_with (fail)
      refine hc2.mono ?_
      rintro e w5 ⟨v, rfl, -, o5, b5⟩
      go_wp2_with (fail)
      go_ret
      exact ⟨_, rfl, owns_downM hB4.size o5, hB4.trans (b5.mono hB4.size)⟩
end Go.Proofs.YtjkfefjfmocekaaDoor
