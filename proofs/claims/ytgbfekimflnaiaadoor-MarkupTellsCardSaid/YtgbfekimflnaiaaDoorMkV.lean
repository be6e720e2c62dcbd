/- The walk of the reference's plain. -/
import Derived.Test.YtgbfekimflnaiaaDoorMkS
import Derived.Test.YtgbfekimflnaiaaDoorMkH
import Derived.Test.YtgbfekimflnaiaaDoorUtfS
namespace Go.Proofs.YtgbfekimflnaiaaDoor
open Go.RowKit Go.Shelf Go.Lib

theorem plain_sgn {but : Int} (hb : but ≤ 127) (l : L8) : plainB but l ↔ validD l = true ∧ ∀ x ∈ sgn l, okS but x := by
  unfold plainB
  refine and_congr_right fun hv => ?_
  obtain ⟨h1, h2⟩ := sgn_yes hv
  conv => lhs; rw [h2]
  exact clean_txt hb h1
/-- the reference's guard says what okS denies -/
theorem okS_guard {lines : Bool} {but : Int} (hbut : (lines = true ∧ but = 10) ∨ (lines = false ∧ but = 33)) (x : Int) : okS but x ↔ ¬ ((x < 32 ∧ (x ≠ 10 ∨ lines = false)) ∨ x = 127) := by
  unfold okS
  rcases hbut with ⟨rfl, rfl⟩ | ⟨rfl, rfl⟩
  · simp; omega
  · simp; omega

set_option maxRecDepth 100000 in
set_option maxHeartbeats 4000000 in
theorem rplain_any (s : ByteArray) (lines : Bool) (but : Int) (hbut : (lines = true ∧ but = 10) ∨ (lines = false ∧ but = 33)) (w : World) (hs : s.size ≤ 1000000) :
    Calls Tryd.prog 25 #[.string s, .bool lines] w fun e w' => e = .returned (.bool (decide (plainB but s.data.toList))) ∧ Below w.heap.size w w' := by
  have cR := hid (RSigns_any s w hs)
  have hpl := plain_sgn (but := but) (by rcases hbut with ⟨-, rfl⟩ | ⟨-, rfl⟩ <;> decide) s.data.toList
  have hgu := fun x => okS_guard hbut x
  have hln := sgn_len s
  have hrg := sgn_rng s.data.toList
  have hnv : validD s.data.toList = false → sgn s.data.toList = [] := sgn_no
  generalize validD s.data.toList = vd at *
  generalize sgn s.data.toList = L at *
  obtain ⟨dp, hdp⟩ : ∃ d : Bool, decide (plainB but s.data.toList) = d := ⟨_, rfl⟩
  rw [hdp]
  have hno : (∃ x ∈ L, ¬ okS but x) → dp = false := by
    rintro ⟨x, hx, hb⟩
    rw [← hdp, decide_eq_false_iff_not, hpl]
    exact fun h => hb (h.2 x hx)
  have hyes : (∀ x ∈ L, okS but x) → dp = vd := by
    intro h
    rw [← hdp, Bool.eq_iff_iff, decide_eq_true_iff, hpl]
    exact ⟨fun h => h.1, fun hv => ⟨hv, h⟩⟩
  clear hpl hdp hbut hnv
  replace hno := hid hno
  replace hyes := hid hyes
  replace hgu := hid hgu
  replace hrg := hid hrg
  go_enter Tryd.func25, Tryd.ntmps25
  go_wp2_with (fail)
  refine cR.out.mono ?_
  rintro e w1 ⟨v, rfl, sl, b1⟩
  obtain ⟨p, cap, rfl, -⟩ := sl.shape
  have hbx : (w1.alloc (.cells #[.slice p L.length cap, .bool vd] 69)).heap[w1.heap.size]? = some (.cells #[.slice p L.length cap, .bool vd] 69 (0, 0)) := World.alloc_heap_new w1 _
  obtain ⟨W2, hW2⟩ : ∃ V, w1.alloc (.cells #[.slice p L.length cap, .bool vd] 69) = V := ⟨_, rfl⟩
  rw [hW2] at hbx
  have f0 := cell_blk (i := 0) hbx rfl
  have f1 := cell_blk (i := 1) hbx rfl
  have sl2 : Sl W2 1 encI (.slice p L.length cap) L := by rw [← hW2]; exact (Kept.alloc 0 _ _).sl sl
  have B2 : Below w.heap.size w W2 := by rw [← hW2]; exact b1.alloc b1.size _
  clear cR sl
  go_wp2_with (fail)
  replace hW2 := hid hW2
  go_loopw [6, 7] (fun i _ wr => ∃ k : Nat, k ≤ L.length ∧ i = .int .i64 k ∧ (∀ x ∈ L.take k, okS but x) ∧ W2 = wr) (fun i _ _ => L.length - (RowKit.intOf i).toNat)
  case atStart => exact ⟨0, Nat.zero_le _, rfl, by simp, rfl⟩
  case round =>
    obtain ⟨k, hk, rfl, hall, rfl⟩ := hrel
    by_cases hkl : k < L.length
    · have hkI : (k : Int) < (L.length : Int) := by omega
      obtain ⟨xb, xo, cap2, he, h4, h5, hc2⟩ := sl2.open (by rintro rfl; simp at hkl)
      simp only [Value.slice.injEq] at he
      obtain ⟨rfl, -, rfl⟩ := he
      have hck := rangeAt_one (hc2 k L[k] (List.getElem?_eq_getElem hkl))
      rw [Nat.mul_one] at hck
      have hmem := List.getElem_mem hkl
      have htk : L.take (k + 1) = L.take k ++ [L[k]] := List.take_succ_eq_append_getElem hkl
      clear hc2
      generalize L[k] = x at *
      have hr := hrg.out x hmem
      by_cases hbad : okS but x
      · have hnb := (hgu.out x).1 hbad
        have hnx : ∀ y ∈ L.take (k + 1), okS but y := by
          rw [htk]
          intro y hy
          rcases List.mem_append.1 hy with h | h
          · exact hall y h
          · obtain rfl := List.mem_singleton.1 h
            exact hbad
        replace hnx := hid hnx
        replace htk := hid htk
        replace hall := hid hall
        by_cases h32 : x < 32
        · have hx10 : (x != 10) = false := by
            have : ¬ (x ≠ 10 ∨ lines = false) := fun h => hnb (.inl ⟨h32, h⟩)
            simp only [bne_eq_false_iff_eq]
            by_cases h : x = 10
            · exact h
            · exact absurd (.inl h) this
          have hln : (!lines) = false := by
            have : ¬ (x ≠ 10 ∨ lines = false) := fun h => hnb (.inl ⟨h32, h⟩)
            cases lines
            · exact absurd (.inr rfl) this
            · rfl
          have h127 : (x == 127) = false := by simp only [beq_eq_false_iff_ne, ne_eq]; omega
          replace hnb := hid hnb
          go_wp2_with (fail)
          refine ⟨⟨k + 1, by omega, by go_num, hnx.out, by trivial⟩, by simp [RowKit.intOf]; omega⟩
        · have h127 : (x == 127) = false := by
            simp only [beq_eq_false_iff_ne, ne_eq]
            exact fun h => hnb (.inr h)
          replace hnb := hid hnb
          go_wp2_with (fail)
          refine ⟨⟨k + 1, by omega, by go_num, hnx.out, by trivial⟩, by simp [RowKit.intOf]; omega⟩
      · have hdf := hno.out ⟨x, hmem, hbad⟩
        have hb : (x < 32 ∧ (x ≠ 10 ∨ lines = false)) ∨ x = 127 := by
          by_cases h : (x < 32 ∧ (x ≠ 10 ∨ lines = false)) ∨ x = 127
          · exact h
          · exact absurd ((hgu.out x).2 h) hbad
        replace hdf := hid hdf
        replace htk := hid htk
        replace hall := hid hall
        by_cases h32 : x < 32
        · have h127 : (x == 127) = false := by simp only [beq_eq_false_iff_ne, ne_eq]; omega
          have hb2 : x ≠ 10 ∨ lines = false := by
            rcases hb with h | h
            · exact h.2
            · omega
          by_cases h10 : x = 10
          · have hx10 : (x != 10) = false := by rw [h10]; rfl
            have hln : lines = false := by
              rcases hb2 with h | h
              · exact absurd h10 h
              · exact h
            subst hln
            replace h10 := hid h10
            clear hb hb2
            go_wp2_with (fail)
            go_ret
            exact ⟨by rw [hdf.out]; rfl, B2⟩
          · have hx10 : (x != 10) = true := by simpa using h10
            replace h10 := hid h10
            clear hb hb2
            go_wp2_with (fail)
            go_ret
            exact ⟨by rw [hdf.out]; rfl, B2⟩
        · have h127 : (x == 127) = true := by
            rcases hb with h | h
            · exact absurd h.1 h32
            · rw [h]; rfl
          clear hb
          go_wp2_with (fail)
          go_ret
          exact ⟨by rw [hdf.out]; rfl, B2⟩
    · obtain rfl : k = L.length := by omega
      rw [List.take_length] at hall
      have hy := hid (hyes.out hall)
      clear hall
      go_wp2_with (fail)
      go_ret
      exact ⟨by rw [hy.out]; rfl, B2⟩
end Go.Proofs.YtgbfekimflnaiaaDoor
