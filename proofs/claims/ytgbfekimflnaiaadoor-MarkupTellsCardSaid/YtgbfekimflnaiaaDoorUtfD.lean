/- The walk of the reference's Bytes (by gen_utfd.py). -/
import Derived.Test.YtgbfekimflnaiaaDoorUtfB
namespace Go.Proofs.YtgbfekimflnaiaaDoor
open Go.RowKit Go.Lib

def encB (n : Int) : List Value := [.int .u8 n]

theorem and63 (v : Int) (h0 : 0 ≤ v) (h1 : v < 2 ^ 62) : bits BinOp.and IntKind.i64 v 63 = v % 64 := by
  have h := bits_mask .i64 62 (by decide) (fun n h0 h1 => by rw [IntKind.wrap_i64]; omega) 6 (by decide) v h0 h1
  have e : ((2 : Int) ^ 6 - 1) = 63 := by decide
  have e2 : ((2 : Int) ^ 6) = 64 := by decide
  rw [e, e2] at h
  exact h

/-- the reference's bytes of a code point; none: it is none -/
def rbytes (v : Int) : List Int := if okv v then encodeRuneZ v else []

set_option maxRecDepth 100000 in
set_option maxHeartbeats 400000 in
theorem Bytes_no (v : Int) (w : World) (z1 : -9223372036854775808 ≤ v) (z2 : v ≤ 9223372036854775807) (h : ¬ okv v) :
    Calls Tryd.prog 53 #[.int .i64 v] w fun e w' => e = .returned (.slice none 0 0) ∧ w = w' := by
  have hc : v < 0 ∨ (¬ v < 0 ∧ 1114111 < v) ∨ (¬ v < 0 ∧ ¬ 1114111 < v ∧ 55296 ≤ v ∧ v ≤ 57343) := by unfold okv at h; omega
  clear h
  rcases hc with a | ⟨a, b⟩ | ⟨a, b, c, d⟩
  all_goals
    go_enter Tryd.func53, Tryd.ntmps53
    go_wp2
    go_ret
    exact ⟨rfl, rfl⟩

set_option maxRecDepth 100000 in
set_option maxHeartbeats 400000 in
theorem Bytes_1 (v : Int) (w : World) (h1 : 0 ≤ v) (h2 : v ≤ 127) :
    Calls Tryd.prog 53 #[.int .i64 v] w fun e w' => e = .returned (.slice (some ⟨w.heap.size, 0, none⟩) 1 1) ∧ w' = w.alloc (.cells ([v].flatMap encB).toArray 5) := by
  have q1 := and63 (v) (by omega) (by omega)
  have q2 := and63 (v / 64) (by omega) (by omega)
  have q3 := and63 (v / 4096) (by omega) (by omega)
  go_enter Tryd.func53, Tryd.ntmps53
  go_wp2
  all_goals go_ret
  all_goals exact ⟨rfl, rfl⟩

set_option maxRecDepth 100000 in
set_option maxHeartbeats 400000 in
theorem Bytes_2 (v : Int) (w : World) (h1 : 128 ≤ v) (h2 : v ≤ 2047) :
    Calls Tryd.prog 53 #[.int .i64 v] w fun e w' => e = .returned (.slice (some ⟨w.heap.size, 0, none⟩) 2 2) ∧ w' = w.alloc (.cells ([192 + v / 64, 128 + v % 64].flatMap encB).toArray 5) := by
  have q1 := and63 (v) (by omega) (by omega)
  have q2 := and63 (v / 64) (by omega) (by omega)
  have q3 := and63 (v / 4096) (by omega) (by omega)
  go_enter Tryd.func53, Tryd.ntmps53
  go_wp2
  all_goals go_ret
  all_goals exact ⟨rfl, rfl⟩

set_option maxRecDepth 100000 in
set_option maxHeartbeats 400000 in
theorem Bytes_3a (v : Int) (w : World) (h1 : 2048 ≤ v) (h2 : v < 55296) :
    Calls Tryd.prog 53 #[.int .i64 v] w fun e w' => e = .returned (.slice (some ⟨w.heap.size, 0, none⟩) 3 3) ∧ w' = w.alloc (.cells ([224 + v / 4096, 128 + v / 64 % 64, 128 + v % 64].flatMap encB).toArray 5) := by
  have q1 := and63 (v) (by omega) (by omega)
  have q2 := and63 (v / 64) (by omega) (by omega)
  have q3 := and63 (v / 4096) (by omega) (by omega)
  go_enter Tryd.func53, Tryd.ntmps53
  go_wp2
  all_goals go_ret
  all_goals exact ⟨rfl, rfl⟩

set_option maxRecDepth 100000 in
set_option maxHeartbeats 400000 in
theorem Bytes_3b (v : Int) (w : World) (h1 : 57343 < v) (h2 : v ≤ 65535) :
    Calls Tryd.prog 53 #[.int .i64 v] w fun e w' => e = .returned (.slice (some ⟨w.heap.size, 0, none⟩) 3 3) ∧ w' = w.alloc (.cells ([224 + v / 4096, 128 + v / 64 % 64, 128 + v % 64].flatMap encB).toArray 5) := by
  have q1 := and63 (v) (by omega) (by omega)
  have q2 := and63 (v / 64) (by omega) (by omega)
  have q3 := and63 (v / 4096) (by omega) (by omega)
  go_enter Tryd.func53, Tryd.ntmps53
  go_wp2
  all_goals go_ret
  all_goals exact ⟨rfl, rfl⟩

set_option maxRecDepth 100000 in
set_option maxHeartbeats 400000 in
theorem Bytes_4 (v : Int) (w : World) (h1 : 65536 ≤ v) (h2 : v ≤ 1114111) :
    Calls Tryd.prog 53 #[.int .i64 v] w fun e w' => e = .returned (.slice (some ⟨w.heap.size, 0, none⟩) 4 4) ∧ w' = w.alloc (.cells ([240 + v / 262144, 128 + v / 4096 % 64, 128 + v / 64 % 64, 128 + v % 64].flatMap encB).toArray 5) := by
  have q1 := and63 (v) (by omega) (by omega)
  have q2 := and63 (v / 64) (by omega) (by omega)
  have q3 := and63 (v / 4096) (by omega) (by omega)
  go_enter Tryd.func53, Tryd.ntmps53
  go_wp2
  all_goals go_ret
  all_goals exact ⟨rfl, rfl⟩

theorem Bytes_yes (v : Int) (w : World) (h : okv v) :
    Calls Tryd.prog 53 #[.int .i64 v] w fun e w' => ∃ x, e = .returned x ∧ Sl w' 1 encB x (encodeRuneZ v) ∧ Below w.heap.size w w' := by
  have key : ∀ (l : List Int) (n : Nat), encodeRuneZ v = l → n = l.length → n ≤ 4 → (Calls Tryd.prog 53 #[.int .i64 v] w fun e w' => e = .returned (.slice (some ⟨w.heap.size, 0, none⟩) n n) ∧ w' = w.alloc (.cells (l.flatMap encB).toArray 5)) →
      Calls Tryd.prog 53 #[.int .i64 v] w fun e w' => ∃ x, e = .returned x ∧ Sl w' 1 encB x (encodeRuneZ v) ∧ Below w.heap.size w w' := by
    intro l n hl hn h4 hc
    refine hc.mono fun e w' ⟨he, hw⟩ => ⟨_, he, ?_, ?_⟩
    · rw [hl, hw, hn]
      refine sl_of_block (World.alloc_heap_new w _) ?_ (fun _ _ => rfl) (Nat.le_refl _) (by unfold maxLen; omega)
      have : ∀ l : List Int, (l.flatMap encB).length = l.length * 1 := by
        intro l
        induction l with
        | nil => rfl
        | cons a l ih => rw [List.flatMap_cons, List.length_append, ih]; simp [encB]; omega
      simp only [← this l, List.take_length]
    · rw [hw]; exact (Below.refl _ w).alloc (Nat.le_refl _) _
  have h' := h
  obtain ⟨a1, a2, a3⟩ := h'
  rcases encZ_cases h with ⟨c, e⟩ | ⟨c1, c2, e⟩ | ⟨c1, c2, e⟩ | ⟨c, e⟩
  · exact key _ 1 e rfl (by decide) (Bytes_1 v w a1 c)
  · exact key _ 2 e rfl (by decide) (Bytes_2 v w c1 c2)
  · by_cases d : v < 55296
    · exact key _ 3 e rfl (by decide) (Bytes_3a v w c1 d)
    · exact key _ 3 e rfl (by decide) (Bytes_3b v w (by omega) c2)
  · exact key _ 4 e rfl (by decide) (Bytes_4 v w c a2)
end Go.Proofs.YtgbfekimflnaiaaDoor
