/- The walk of index's Good, whatever list it is (printed by gen_iyk.py). -/
import Derived.Test.YtomgjapjeckokaaIyJ
import Derived.Test.YtomgjapjeckokaaIxP
namespace Go.Proofs.Ytomgjapjeckokaa
open Go.RowKit Go.Shelf Go.Lib

set_option maxRecDepth 100000 in
set_option maxHeartbeats 1000000 in
theorem rises_nil (p : Option Addr) (cap : Nat) (w : World) : Calls Try.prog 35 #[.agg #[.slice p 0 cap, .func (.func 51) #[] #[]]] w fun e w' => e = .returned (.bool true) ∧ Below w.heap.size w w' := by
  obtain ⟨n₀, hn₀⟩ : ∃ n, w.heap.size = n := ⟨_, rfl⟩
  have g0 := World.alloc_heap_new w (.cells #[.slice p 0 cap, .func (.func 51) #[] #[]] 72)
  rw [hn₀] at g0
  have B0 : Below n₀ w (w.alloc (.cells #[.slice p 0 cap, .func (.func 51) #[] #[]] 72)) := by rw [← hn₀]; exact (Below.refl _ w).alloc (Nat.le_refl _) _
  obtain ⟨W1, hW1⟩ : ∃ W : World, W = w.alloc (.cells #[.slice p 0 cap, .func (.func 51) #[] #[]] 72) := ⟨_, rfl⟩
  rw [← hW1] at g0 B0
  have d0 : W1.cell? ⟨n₀, 0, none⟩ = some (.slice p 0 cap) := cell_blk (i := 0) g0 rfl
  clear g0
  go_enter Try.func35, Try.ntmps35
  go_upto_region 1 with (fail)
  rw [← hW1]
  clear hW1
  go_wp2_with (fail)
  go_loopw [7] (fun iv wr => iv = .int .i64 0 ∧ Below n₀ w wr) (fun _ _ => 0)
  case atStart => exact ⟨rfl, B0⟩
  case round =>
    obtain ⟨rfl, qB⟩ := hrel
    clear B0 d0
    go_wp2_with (fail)
    go_ret
    subst hn₀
    exact ⟨rfl, qB⟩

set_option maxRecDepth 100000 in
set_option maxHeartbeats 1000000 in
theorem iGood_nil (p : Option Addr) (cap : Nat) (w : World) : Calls Try.prog 14 #[.slice p 0 cap] w fun e w' => e = .returned (.bool (goodI [])) ∧ Below w.heap.size w w' := by
  obtain ⟨n₀, hn₀⟩ : ∃ n, w.heap.size = n := ⟨_, rfl⟩
  have cO := hid (of_any p 0 cap w)
  go_enter Try.func14, Try.ntmps14
  go_wp2_with (fail)
  refine cO.out.mono ?_
  rintro e w1 ⟨rfl, b1⟩
  have cR := hid (rises_nil p cap w1)
  clear cO
  go_wp2_with (fail)
  refine cR.out.mono ?_
  rintro e w2 ⟨rfl, b2⟩
  have B2 : Below n₀ w w2 := by rw [← hn₀]; exact b1.trans (b2.mono b1.size)
  have B3 := B2.alloc (by have := B2.size; omega) (.cells #[.int .u8 0, .int .u8 0, .int .u8 0, .int .u8 0, .int .u8 0, .int .u8 0, .int .u8 0, .int .u8 0, .int .u8 0, .int .u8 0, .int .u8 0, .int .u8 0, .int .u8 0, .int .u8 0, .int .u8 0, .int .u8 0] 75)
  clear cR b1 b2 B2
  go_wp2_with (fail)
  go_loopw [14] (fun iv wr => iv = .int .i64 0 ∧ Below n₀ w wr) (fun _ _ => 0)
  case atStart => exact ⟨rfl, B3⟩
  case round =>
    obtain ⟨rfl, qB⟩ := hrel
    clear B3
    go_wp2_with (fail)
    go_ret
    subst hn₀
    exact ⟨rfl, qB⟩

theorem iGood_all (l : List Ent) (v : Value) (w : World) (hs : Sl w 35 encE v l) (hk : ∀ e ∈ l, intOkE e) (hl : l.length ≤ 1000000) :
    Calls Try.prog 14 #[v] w fun e w' => e = .returned (.bool (goodI l)) ∧ Below w.heap.size w w' := by
  by_cases h0 : l = []
  · subst h0
    obtain ⟨p9, c9, rfl, -⟩ := hs.shape
    exact iGood_nil p9 c9 w
  · obtain ⟨b, o, c, rfl, -, -, -⟩ := hs.open h0
    exact iGood_any l b o c w hs hk hl h0

/-- the entries of the j-th leaf -/
def chunkAt (l : List Ent) (j : Nat) : List Ent := (l.drop (3 * j)).take 3
def nLeaf (n : Nat) : Nat := (n + 2) / 3
def leafsS (l : List Ent) (m : Nat) : List (List UInt8) := (List.range m).map fun j => sealB (encB (chunkAt l j))
/-- what Pack answers -/
def packS (l : List Ent) (places : List Int) : List (List UInt8) × Int :=
  if goodI l = true then
    if (places.length : Int) ≠ sizeS l.length then ([], 1) else if l = [] then ([], 0) else
      if rootOk (places.take (places.length - 1)) = true then (leafsS l (nLeaf l.length) ++ [sealB (rootB (places.take (places.length - 1)))], 0) else ([], 11)
  else ([], 11)

theorem usedTo_one {l : List Ent} : ∀ {n : Nat}, (usedTo l n).isSome = true → ∀ k e, k < n → l[k]? = some e → goodL [e] = true
  | 0, _, k, _, hk, _ => absurd hk (Nat.not_lt_zero _)
  | n + 1, h, k, e, hk, he => by
    rw [usedTo] at h
    obtain ⟨m, hm⟩ := Option.isSome_iff_exists.1 h
    obtain ⟨m', h1, h2⟩ := Option.bind_eq_some_iff.1 hm
    by_cases e1 : k = n
    · subst e1
      rw [he] at h2
      dsimp only at h2
      split at h2
      · rename_i hc; exact hc.2
      · cases h2
    · exact usedTo_one (by rw [h1]; rfl) k e (by omega) he
theorem goodI_one {l : List Ent} (h : goodI l = true) {k : Nat} {e : Ent} (he : l[k]? = some e) : oneE e = true := by
  unfold goodI at h
  simp only [Bool.and_eq_true] at h
  have h1 := usedTo_one h.2 k e (List.getElem?_eq_some_iff.1 he).1 he
  exact goodL_at h1 (k := 0) rfl
theorem goodI_rises {l : List Ent} (h : goodI l = true) {k : Nat} (hk : k < l.length) (hk0 : 0 < k) : lessS (keyAt l (k - 1)) (keyAt l k) = true := by
  unfold goodI risesL risesTo at h
  simp only [Bool.and_eq_true, List.all_eq_true, List.mem_range] at h
  have := h.1 k hk
  simp only [Bool.or_eq_true, beq_iff_eq] at this
  rcases this with h9 | h9
  · omega
  · exact h9
theorem chunk_get (l : List Ent) (j i : Nat) : (chunkAt l j)[i]? = if i < 3 then l[3 * j + i]? else none := by
  unfold chunkAt
  rw [List.getElem?_take]
  split
  · rw [List.getElem?_drop]
  · rfl
theorem chunk_len {l : List Ent} {j : Nat} (_hj : 3 * j < l.length) : (chunkAt l j).length = min 3 (l.length - 3 * j) := by unfold chunkAt; simp
theorem chunk_mem {l : List Ent} {j : Nat} {e : Ent} (h : e ∈ chunkAt l j) : e ∈ l := List.mem_of_mem_drop (List.mem_of_mem_take h)
theorem chunk_good {l : List Ent} (h : goodI l = true) {j : Nat} (hj : 3 * j < l.length) : goodL (chunkAt l j) = true := by
  have hcl := chunk_len hj
  unfold goodL goodTo
  simp only [Bool.and_eq_true, decide_eq_true_eq, List.all_eq_true, List.mem_range]
  refine ⟨⟨by omega, by omega⟩, fun i hi => ⟨?_, ?_⟩⟩
  · by_cases hi0 : i = 0
    · subst hi0; rfl
    · simp only [Bool.or_eq_true, beq_iff_eq]
      right
      have hka : ∀ i, i < 3 → keyAt (chunkAt l j) i = keyAt l (3 * j + i) := fun i hi => by unfold keyAt; rw [chunk_get, if_pos hi]
      rw [hka _ (by omega), hka _ (by omega), show 3 * j + (i - 1) = 3 * j + i - 1 by omega]
      exact goodI_rises h (by omega) (by omega)
  · unfold oneAt
    have h9 := chunk_get l j i
    rw [if_pos (by omega), List.getElem?_eq_getElem (by omega : 3 * j + i < l.length)] at h9
    rw [h9]
    exact goodI_one h (List.getElem?_eq_getElem (by omega : 3 * j + i < l.length))
end Go.Proofs.Ytomgjapjeckokaa
