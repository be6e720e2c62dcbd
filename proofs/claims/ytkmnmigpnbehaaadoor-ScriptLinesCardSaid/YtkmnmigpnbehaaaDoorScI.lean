/- The walk of the reference's number. -/
import Derived.Test.YtkmnmigpnbehaaaDoorScH
namespace Go.Proofs.YtkmnmigpnbehaaaDoor
open Go.RowKit Go.Shelf Go.Lib

def valD (acc : Nat) : L8 → Nat
  | [] => acc
  | c :: r => valD (acc * 10 + (c.toNat - 48)) r
theorem valD_app (acc : Nat) (a b : L8) : valD acc (a ++ b) = valD (valD acc a) b := by
  induction a generalizing acc with
  | nil => rfl
  | cons c r ih => exact ih _
theorem val_dec (n : Nat) : valD 0 (Lib.decDigits n) = n := by
  induction n using Nat.strongRecOn with
  | ind n ih =>
    rw [Lib.decDigits]
    split
    · show 0 * 10 + ((UInt8.ofNat (48 + n)).toNat - 48) = n
      rw [UInt8.toNat_ofNat']; omega
    · rw [valD_app, ih (n / 10) (by omega)]
      show n / 10 * 10 + ((UInt8.ofNat (48 + n % 10)).toNat - 48) = n
      rw [UInt8.toNat_ofNat']; omega
theorem dec_short : ∀ (k n : Nat), n < 10 ^ (k + 1) → (Lib.decDigits n).length ≤ k + 1 := by
  intro k
  induction k with
  | zero =>
    intro n h
    rw [Lib.decDigits, dif_pos (by simpa using h)]; simp
  | succ k ih =>
    intro n h
    rw [Lib.decDigits]
    split
    · simp
    · rw [List.length_append]
      have := ih (n / 10) (by rw [Nat.pow_succ] at h; omega)
      simp only [List.length_cons, List.length_nil]
      omega
theorem num_law {w : L8} (n : Nat) (h : valD 0 w = n) : numS w = if Lib.decDigits n = w ∧ n ≤ 65535 then some n else none := by
  split
  · rename_i hc
    rw [← hc.1, num_dec hc.2]
  · rename_i hc
    cases e : numS w with
    | none => rfl
    | some m =>
      obtain ⟨h1, h2⟩ := num_some e
      have : m = n := by rw [← h, ← h2, val_dec]
      subst this
      exact absurd ⟨h2, h1⟩ hc
theorem num_not {w : L8} (h : w = [] ∨ 5 < w.length ∨ ∃ c ∈ w, ¬ (48 ≤ c.toNat ∧ c.toNat ≤ 57)) : numS w = none := by
  cases e : numS w with
  | none => rfl
  | some m =>
    obtain ⟨h1, h2⟩ := num_some e
    exfalso
    rcases h with h | h | ⟨c, hc, hn⟩
    · exact dec_ne m (h2.trans h)
    · have := dec_short 4 m (by omega)
      rw [h2] at this; omega
    · rw [← h2] at hc
      exact hn (dec_digit hc)
theorem valD_le {l : L8} (h : ∀ c ∈ l, 48 ≤ c.toNat ∧ c.toNat ≤ 57) : ∀ acc, valD acc l < (acc + 1) * 10 ^ l.length := by
  induction l with
  | nil => intro acc; show acc < (acc + 1) * 1; omega
  | cons c r ih =>
    intro acc
    have hc := h c List.mem_cons_self
    have := ih (fun d hd => h d (List.mem_cons_of_mem _ hd)) (acc * 10 + (c.toNat - 48))
    show valD _ r < _
    refine Nat.lt_of_lt_of_le this ?_
    rw [List.length_cons, Nat.pow_succ, Nat.mul_comm (10 ^ r.length) 10, ← Nat.mul_assoc]
    exact Nat.mul_le_mul_right _ (by omega)

theorem setN {w : World} {b : Nat} {t : TypeId} {x y x0 y0 : Value} (h : w.heap[b]? = some (.cells #[x0, y0] t (0, 0))) :
    ((w.setCell ⟨b, 0, none⟩ x).setCell ⟨b, 1, none⟩ y).heap[b]? = some (.cells #[x, y] t (0, 0)) := by
  obtain ⟨hb, he⟩ := Array.getElem?_eq_some_iff.1 h
  simp [World.setCell, hb, Array.getElem_modify, he]
theorem belowN {w : World} {n b : Nat} {x y : Value} (h : n ≤ b) : Below n w ((w.setCell ⟨b, 0, none⟩ x).setCell ⟨b, 1, none⟩ y) :=
  ((Below.refl n w).setCell (p := ⟨b, 0, none⟩) h x).setCell (p := ⟨b, 1, none⟩) h y
theorem outN {R : Ending → World → Prop} {a : Act} {w : World} {b : Nat} {x y : Value}
    (hp : a.tmps.getD 2 undef = .pointer (some ⟨b, 0, none⟩)) (hd : a.defers = [])
    (hg : w.heap[b]? = some (.cells #[x, y] 57 (0, 0)))
    (hR : R (.returned (.agg #[x, y])) w) : bodyPost Tryd.prog Tryd.f18 R .ret a w := by
  have hk : (Tryd.prog.underlying 57).any TypeDesc.isRow = true := by kernel_rfl
  obtain ⟨d, hu, hr⟩ : ∃ d, Tryd.prog.underlying 57 = some d ∧ TypeDesc.isRow d = true := by
    cases h : Tryd.prog.underlying 57 with
    | none => rw [h] at hk; cases hk
    | some d => rw [h] at hk; exact ⟨d, rfl, hk⟩
  exact bodyPost_ret (results_cell_row (P := Tryd.prog) (fn := Tryd.f18) rfl _ _ b _ _ _ d hp hg hu (by cases d <;> first | rfl | cases hr) (by kernel_rfl)) hd hR

set_option maxRecDepth 100000 in
set_option maxHeartbeats 4000000 in
theorem rnumber_any (s : ByteArray) (w : World) (hs : s.size ≤ 1000000) :
    Calls Tryd.prog 18 #[.string s] w fun e w' => ∃ n : Int, e = .returned (.agg #[.int .i64 n, .bool (numS s.data.toList).isSome]) ∧ (∀ m, numS s.data.toList = some m → n = m) ∧ Below w.heap.size w w' := by
  have hl : s.toList = s.data.toList := Lib.toList_data s
  have hz : s.data.toList.length = s.size := Lib.size_eq s |>.symm
  have hbx := World.alloc_heap_new w (.cells #[.int .i64 0, .bool false] 57)
  have B0 : Below w.heap.size w (w.alloc (.cells #[.int .i64 0, .bool false] 57)) := (Below.refl _ w).alloc (Nat.le_refl _) _
  obtain ⟨W1, hW1⟩ : ∃ V, w.alloc (.cells #[.int .i64 0, .bool false] 57) = V := ⟨_, rfl⟩
  rw [hW1] at hbx B0
  have g0 := cell_blk (i := 0) hbx rfl
  have g1 := cell_blk (i := 1) hbx rfl
  have f0 := frozen_blk hbx (i := 0)
  have f1 := frozen_blk hbx (i := 1)
  by_cases h0 : s.data.toList = []
  · have he : s.toList.isEmpty = true := by rw [hl, h0]; rfl
    have hN := num_not (.inl h0)
    rw [hN]
    replace hN := hid hN
    replace h0 := hid h0
    clear hl hz
    go_enter Tryd.func18, Tryd.ntmps18
    go_wp2_with (fail)
    refine outN (b := w.heap.size) (x := .int .i64 0) (y := .bool false) rfl rfl (setN hbx) ⟨_, rfl, fun m hm => (by cases hm), B0.trans (belowN (Nat.le_refl _))⟩
  · have he : s.toList.isEmpty = false := by
      rw [hl]
      cases e : s.data.toList with
      | nil => exact absurd e h0
      | cons a b => rfl
    by_cases h5 : (5 : Int) < s.size
    · have hN := num_not (w := s.data.toList) (.inr (.inl (by rw [hz]; omega)))
      rw [hN]
      replace hN := hid hN
      replace h0 := hid h0
      clear hl hz
      go_enter Tryd.func18, Tryd.ntmps18
      go_wp2_with (fail)
      refine outN (b := w.heap.size) (x := .int .i64 0) (y := .bool false) rfl rfl (setN hbx) ⟨_, rfl, fun m hm => (by cases hm), B0.trans (belowN (Nat.le_refl _))⟩
    · replace h0 := hid h0
      replace hl := hid hl
      go_enter Tryd.func18, Tryd.ntmps18
      go_wp2_with (fail)
      replace hW1 := hid hW1
      go_loopw [3, 4] (fun nv i wr => ∃ k : Nat, k ≤ s.size ∧ i = .int .i64 k ∧ nv = .int .i64 (valD 0 (s.data.toList.take k) : Nat) ∧ (∀ c ∈ s.data.toList.take k, 48 ≤ c.toNat ∧ c.toNat ≤ 57) ∧ W1 = wr) (fun _ i _ => s.size - (RowKit.intOf i).toNat)
      case atStart => exact ⟨0, Nat.zero_le _, rfl, rfl, by simp, rfl⟩
      case round =>
        obtain ⟨k, hk, rfl, rfl, hall, rfl⟩ := hrel
        have hvb : valD 0 (s.data.toList.take k) < 100000 := by
          have h1 := valD_le hall 0
          have h2 : (s.data.toList.take k).length ≤ 5 := by rw [List.length_take, hz]; omega
          have h3 : 10 ^ (s.data.toList.take k).length ≤ 10 ^ 5 := Nat.pow_le_pow_right (by omega) h2
          omega
        obtain ⟨v, hv⟩ : ∃ v, valD 0 (s.data.toList.take k) = v := ⟨_, rfl⟩
        rw [hv] at hvb ⊢
        by_cases hkl : k < s.size
        · have hkI : (k : Int) < (s.size : Int) := by omega
          have hll : k < s.data.toList.length := by rw [hz]; exact hkl
          have hg : s.data.toList[k] = s[k] := rfl
          have htk : s.data.toList.take (k + 1) = s.data.toList.take k ++ [s[k]] := by rw [List.take_succ_eq_append_getElem hll, hg]
          have hmem : s[k] ∈ s.data.toList := by rw [← hg]; exact List.getElem_mem hll
          clear hg
          have hsk : ∃ c, s[k] = c := ⟨_, rfl⟩
          obtain ⟨c, hc⟩ := hsk
          rw [hc] at htk hmem
          by_cases hd : 48 ≤ c.toNat ∧ c.toNat ≤ 57
          · have c1 : ¬ (c.toNat : Int) < 48 := by omega
            have c2 : ¬ (57 : Int) < (c.toNat : Int) := by omega
            have hw1 : IntKind.u8.wrap ((c.toNat : Int) - 48) = (c.toNat : Int) - 48 := by rw [IntKind.wrap_u8]; omega
            have hnx : valD 0 (s.data.toList.take (k + 1)) = v * 10 + (c.toNat - 48) := by rw [htk, valD_app, hv]; rfl
            have hall2 : ∀ d ∈ s.data.toList.take (k + 1), 48 ≤ d.toNat ∧ d.toNat ≤ 57 := by
              rw [htk]
              intro d hdm
              rcases List.mem_append.1 hdm with h | h
              · exact hall d h
              · obtain rfl := List.mem_singleton.1 h
                exact hd
            replace hnx := hid hnx
            replace hall2 := hid hall2
            replace htk := hid htk
            replace hv := hid hv
            replace hall := hid hall
            go_wp2_with (fail)
            refine ⟨⟨k + 1, by omega, by go_num, ?_, hall2.out, by trivial⟩, by simp [RowKit.intOf]; omega⟩
            rw [hnx.out]
            congr 1; omega
          · have hN := num_not (w := s.data.toList) (.inr (.inr ⟨c, hmem, hd⟩))
            replace hN := hid hN
            replace htk := hid htk
            replace hv := hid hv
            replace hall := hid hall
            by_cases c1 : (c.toNat : Int) < 48
            · go_wp2_with (fail)
              refine outN (b := w.heap.size) (x := .int .i64 0) (y := .bool false) rfl rfl (setN hbx) ⟨_, by rw [hN.out]; rfl, fun m hm => (by rw [hN.out] at hm; cases hm), B0.trans (belowN (Nat.le_refl _))⟩
            · have c2 : (57 : Int) < (c.toNat : Int) := by omega
              go_wp2_with (fail)
              refine outN (b := w.heap.size) (x := .int .i64 0) (y := .bool false) rfl rfl (setN hbx) ⟨_, by rw [hN.out]; rfl, fun m hm => (by rw [hN.out] at hm; cases hm), B0.trans (belowN (Nat.le_refl _))⟩
        · obtain rfl : k = s.size := by omega
          rw [← hz, List.take_length] at hv hall
          have hN := num_law v hv
          have cD := hid (Dec_any v (by omega) W1)
          obtain ⟨eb, heb⟩ : ∃ b : Bool, (Lib.decDigits v == s.toList) = b := ⟨_, rfl⟩
          replace hN := hid hN
          replace hv := hid hv
          go_wp2_with (fail)
          refine cD.out.mono ?_
          rintro e w2 ⟨rfl, b2⟩
          have hlt : w.heap.size < W1.heap.size := (Array.getElem?_eq_some_iff.1 hbx).1
          have hbx2 := (b2.block _ hlt).trans hbx
          have g02 := cell_blk (i := 0) hbx2 rfl
          have g12 := cell_blk (i := 1) hbx2 rfl
          have f02 := frozen_blk hbx2 (i := 0)
          have f12 := frozen_blk hbx2 (i := 1)
          have B2 := B0.trans (b2.mono B0.size)
          cases eb
          · have hNo : numS s.data.toList = none := by
              rw [hN.out, if_neg]
              rintro ⟨h1, -⟩
              rw [hl.out, h1] at heb
              simp at heb
            replace hNo := hid hNo
            clear hN
            go_wp2_with (fail)
            refine outN (b := w.heap.size) (x := .int .i64 v) (y := .bool false) rfl rfl (setN hbx2) ⟨_, by rw [hNo.out]; rfl, fun m hm => (by rw [hNo.out] at hm; cases hm), B2.trans (belowN (Nat.le_refl _))⟩
          · have hde : Lib.decDigits v = s.data.toList := by
              have := eq_of_beq heb
              rw [this, hl.out]
            by_cases h65 : (v : Int) ≤ 65535
            · have hNs : numS s.data.toList = some v := by rw [hN.out, if_pos ⟨hde, by omega⟩]
              replace hNs := hid hNs
              replace hde := hid hde
              clear hN
              go_wp2_with (fail)
              refine outN (b := w.heap.size) (x := .int .i64 v) (y := .bool true) rfl rfl (setN hbx2) ⟨_, by rw [hNs.out]; rfl, fun m hm => (by rw [hNs.out] at hm; cases hm; rfl), B2.trans (belowN (Nat.le_refl _))⟩
            · have hNo : numS s.data.toList = none := by rw [hN.out, if_neg (fun h => by have := h.2; omega)]
              replace hNo := hid hNo
              replace hde := hid hde
              clear hN
              go_wp2_with (fail)
              refine outN (b := w.heap.size) (x := .int .i64 v) (y := .bool (decide ((v : Int) ≤ 65535))) rfl rfl (setN hbx2) ⟨_, by rw [hNo.out, decide_eq_false (show ¬ (v : Int) ≤ 65535 by omega)]; rfl, fun m hm => (by rw [hNo.out] at hm; cases hm), B2.trans (belowN (Nat.le_refl _))⟩
end Go.Proofs.YtkmnmigpnbehaaaDoor
