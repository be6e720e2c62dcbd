/- The walks of markup's plain, one, word. -/
import Derived.Test.YtgbfekimflnaiaaDoorMkB
import Derived.Test.YtgbfekimflnaiaaDoorMkQ
import Derived.Test.YtgbfekimflnaiaaDoorUtfS
namespace Go.Proofs.YtgbfekimflnaiaaDoor
open Go.RowKit Go.Shelf Go.Lib

theorem idx_none (p : Nat → Bool) {s : ByteArray} {xs : List Int} (hx : ∀ x ∈ xs, okv x) (hs : s.data.toList = txt xs) : ∀ (m k f : Nat), k + m = xs.length → s.size ≤ (txt (xs.take k)).length + f →
    (Lib.idxFuncFrom p true s f (txt (xs.take k)).length = -1 ↔ ∀ x ∈ xs.drop k, p x.toNat = false) := by
  intro m
  induction m with
  | zero =>
    intro k f hk _
    have e1 : xs.take k = xs := List.take_of_length_le (by omega)
    have e2 : xs.drop k = [] := List.drop_of_length_le (by omega)
    rw [e1, e2, Lib.idxFuncFrom_end _ _ _ _ _ (by rw [txt_size hs]; omega)]
    simp
  | succ m ih =>
    intro k f hk hf
    have hlt : k < xs.length := by omega
    obtain ⟨hd, hlen, hpos⟩ := dec_at hx hs hlt
    have hel := (enc_len (hx _ (List.getElem_mem hlt))).1
    cases f with
    | zero => omega
    | succ f =>
      rw [Lib.idxFuncFrom, if_pos hpos, hd]
      dsimp only
      have hr := ih (k + 1) f (by omega) (by omega)
      rw [hlen] at hr
      have e2 : xs.drop k = xs[k] :: xs.drop (k + 1) := List.drop_eq_getElem_cons hlt
      rw [e2]
      by_cases hp : p xs[k].toNat = true
      · rw [if_pos hp]
        constructor
        · intro h; omega
        · intro h
          have := h xs[k] List.mem_cons_self
          rw [hp] at this; cases this
      · rw [if_neg hp, hr]
        simp only [List.mem_cons, forall_eq_or_imp]
        exact ⟨fun h => ⟨by simpa using hp, h⟩, fun h => h.2⟩
def badR (but : Int) (x : Nat) : Bool := !(decide (okS but x))
theorem idx_plain (but : Int) (hb : but ≤ 127) {s : ByteArray} (hv : validD s.data.toList = true) : (decide (0 ≤ Lib.idxFunc (badR but) true s) = !(decide (clean but s.data.toList))) := by
  obtain ⟨xs, hx, hs⟩ := (valid_iff _).1 hv
  have h1 := idx_none (badR but) (s := s) hx hs xs.length 0 s.size (by omega) (by omega)
  have h2 : clean but s.data.toList ↔ ∀ x ∈ xs, okS but x := by rw [hs]; exact clean_txt hb hx
  have h3 : (Lib.idxFunc (badR but) true s = -1) ↔ clean but s.data.toList := by
    rw [h2]
    refine Iff.trans h1 ?_
    rw [List.drop_zero]
    constructor
    · intro h x hm
      have h4 := h x hm
      unfold badR at h4
      have h5 : ((x.toNat : Nat) : Int) = x := by have := (hx x hm).1; omega
      rw [h5] at h4
      simpa using h4
    · intro h x hm
      unfold badR
      have h5 : ((x.toNat : Nat) : Int) = x := by have := (hx x hm).1; omega
      rw [h5]
      simpa using h x hm
  rcases Lib.idxFunc_range (badR but) true s with h | ⟨h, -⟩
  · have := h3.1 h
    rw [h]; simp [this]
  · have : ¬ clean but s.data.toList := fun hc => by have := h3.2 hc; omega
    simp [h, this]

set_option maxRecDepth 100000 in
set_option maxHeartbeats 2000000 in
theorem plain1_any (but : Int) (x : Nat) (b : Nat) (hx : x ≤ 1114111) (W : World) (hb : W.heap[b]? = some (.cells #[.int .i32 but] 21 (0, 0))) :
    Calls Tryd.prog 36 #[.int .i32 x, .pointer (some ⟨b, 0, none⟩)] W fun e w' => e = .returned (.bool (badR but x)) ∧ w' = W := by
  have c0 := cell_blk hb (i := 0) rfl
  have hbr : badR but x = !(decide ((x : Int) = but ∨ ¬ ((x : Int) < 32 ∨ (x : Int) = 127))) := rfl
  have h1 : (((x : Int) != but) = true ∧ badR but x = (decide ((x : Int) < 32) || ((x : Int) == 127))) ∨ (((x : Int) != but) = false ∧ badR but x = false) := by
    by_cases h : (x : Int) = but
    · right; exact ⟨by simp [h], by rw [hbr]; simp [h]⟩
    · left
      refine ⟨by simp [h], ?_⟩
      rw [hbr, Bool.eq_iff_iff]
      simp [h]
  clear hbr
  generalize badR but x = bb at *
  go_enter Tryd.func36, Tryd.ntmps36
  rcases h1 with ⟨h1, h2⟩ | ⟨h1, h2⟩
  · by_cases h3 : (x : Int) < 32
    · go_wp2
      go_ret
      exact ⟨by rw [h2, show decide ((x : Int) < 32) = true from decide_eq_true h3]; rfl, rfl⟩
    · go_wp2
      go_ret
      exact ⟨by rw [show decide ((x : Int) < 32) = false from decide_eq_false (by omega)]; rfl, rfl⟩
  · go_wp2
    go_ret
    exact ⟨by rw [h2]; rfl, rfl⟩

theorem ba_eta (s : ByteArray) : (⟨s.data.toList.toArray⟩ : ByteArray) = s := by
  obtain ⟨⟨a⟩⟩ := s; rfl

set_option maxRecDepth 100000 in
set_option maxHeartbeats 2000000 in
theorem plain_any (s : ByteArray) (but : Int) (hb : but ≤ 127) (w : World) (hs : s.size ≤ 1000000) (hT : Tabs w) :
    Calls Tryd.prog 22 #[.string s, .int .i32 but] w fun e w' => e = .returned (.bool (decide (plainB but s.data.toList))) ∧ Below w.heap.size w w' := by
  have hn := World.alloc_heap_new w (.cells #[.int .i32 but] 21)
  have hB1 : Below w.heap.size w (w.alloc (.cells #[.int .i32 but] 21)) := (Below.refl _ w).alloc (Nat.le_refl _) _
  have hz : w.heap.size < (w.alloc (.cells #[.int .i32 but] 21)).heap.size := by simp
  obtain ⟨W1, hW1⟩ : ∃ V, w.alloc (.cells #[.int .i32 but] 21) = V := ⟨_, rfl⟩
  rw [hW1] at hn hB1 hz
  have cV := hid (Valid_any s _ (by omega) (hT.below hB1))
  have cC := hid (fun W (h : Below W1.heap.size W1 W) => Tryd.strings_ContainsFunc_runes 36 #[.pointer (some ⟨w.heap.size, 0, none⟩)] (enters_of Tryd.func36 (by kernel_rfl) rfl) (badR but) s W
    (fun V x hx hV => (plain1_any but x w.heap.size hx V ((hV.block w.heap.size (by have := h.size; omega)).trans ((h.block w.heap.size hz).trans hn))).mono (fun e w' ⟨h1, h2⟩ => ⟨h1, 0, h2⟩)))
  go_enter Tryd.func22, Tryd.ntmps22
  by_cases hv : validD s.data.toList = true
  · have hcl := idx_plain but hb hv
    rw [hv] at cV
    simp only [hcl] at cC
    have hpl : decide (plainB but s.data.toList) = decide (clean but s.data.toList) := by
      unfold plainB; simp [hv]
    rw [hpl]
    generalize decide (clean but s.data.toList) = cb at *
    clear hcl hpl hv
    go_wp2_with (fail)
    refine cV.out.mono ?_
    rintro e w2 ⟨rfl, b2⟩
    go_wp2_with (fail)
    refine (cC.out _ b2).mono ?_
    rintro e w3 ⟨rfl, b3⟩
    have B2 := hB1.trans (b2.mono hB1.size)
    go_wp2_with (fail)
    go_ret
    exact ⟨by cases cb <;> rfl, B2.trans (b3.mono B2.size)⟩
  · have hv' : validD s.data.toList = false := by simpa using hv
    rw [hv'] at cV
    have hpl : decide (plainB but s.data.toList) = false := by
      unfold plainB; simp [hv']
    rw [hpl]
    go_wp2_with (fail)
    refine cV.out.mono ?_
    rintro e w2 ⟨rfl, b2⟩
    go_wp2_with (fail)
    go_ret
    exact ⟨rfl, hB1.trans (b2.mono hB1.size)⟩
end Go.Proofs.YtgbfekimflnaiaaDoor
