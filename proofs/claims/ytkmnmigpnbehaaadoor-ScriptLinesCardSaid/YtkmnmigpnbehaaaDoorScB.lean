/- The walks of strconv.FormatUint at base 10 and of script's number. -/
import Derived.Test.YtkmnmigpnbehaaaDoorScA
import Derived.Test.YtkmnmigpnbehaaaDoorShelfC
import Derived.Lib.AppendIntMem
import Derived.Lib.ItoaMem
import Derived.Lib.SmallJoins
namespace Go.Proofs.YtkmnmigpnbehaaaDoor
open Go.RowKit Go.Shelf Go.Lib Go.Sort

set_option maxRecDepth 100000 in
set_option maxHeartbeats 6400000 in
theorem iFormatUint_any (u : Nat) (hu64 : u < 18446744073709551616) (w : World) (htab : Lib.TabIs Tryd.prog w "internal/strconv.uint64pow10" .u64 Lib.pow10Tab) :
    Calls Tryd.prog 54 #[.int .u64 u, .int .i64 10] w fun e w' => e = .returned (.string ⟨(Lib.decDigits u).toArray⟩) ∧ Below w.heap.size w w' := by
  by_cases hs : u < 100
  · have hsI : (u : Int) < 100 := by omega
    have cS := hid (Tryd.internal_strconv_small u hs w)
    have hcv : IntKind.i64.wrap (u : Int) = (u : Int) := by rw [IntKind.wrap_i64]; omega
    go_enter Tryd.func54, Tryd.ntmps54
    go_wp2_with (fail)
    refine cS.out.mono ?_
    rintro e w1 ⟨rfl, rfl⟩
    go_wp2_with (fail)
    go_ret
    exact ⟨rfl, Below.refl _ _⟩
  · have hsI : ¬ (u : Int) < 100 := by omega
    have hu1 : 1 ≤ u := by omega
    have hnd20 : Lib.nDigits u ≤ 20 := by have := Lib.numDigits_eq u hu1 hu64; split at this <;> omega
    have hal : Tryd.prog.arrayLen 95 = 24 := by kernel_rfl
    have hsl : ∀ W, (Instr.sliceAt 95 (.pointer (some ⟨w.heap.size, 0, none⟩)) none (some (.int .i64 (Lib.nDigits u : Int))) none).run Tryd.prog W = .ok (.slice (some ⟨w.heap.size, 0, none⟩) (Lib.nDigits u) 24) W := fun W => by
      rw [run_sliceAt_array_h W 95 ⟨w.heap.size, 0, none⟩ (by simp [Program.arrayLen, Program.elem, Tryd.underlying95]) .i64 (Lib.nDigits u : Int) (by omega) (by rw [hal]; omega)]
      go_simp
    have hH0 := Lib.holds_zero0 w 95 (Lib.nDigits u) (by omega)
    have hfmt := Tryd.internal_strconv_formatBase10 w.heap.size 0 24 u (Array.replicate (Lib.nDigits u) 0) (w.alloc (.cells Lib.zeros24 95)) hH0 (by rw [Array.size_replicate]; exact Lib.lt_pow_nDigits u) hu64 (by rw [Array.size_replicate]; omega)
    rw [Array.size_replicate] at hfmt
    have HH0 := Lib.hid hH0
    have cN := hid (Tryd.internal_strconv_numDigits u hu1 hu64 _ (Lib.tabIs_alloc htab (.cells Lib.zeros24 95)))
    replace hfmt := hid hfmt
    clear hH0 hal
    go_enter Tryd.func54, Tryd.ntmps54
    go_wp2_with (fail)
    refine cN.out.mono ?_
    rintro e w1 ⟨rfl, rfl⟩
    go_wp2_with (fail)
    refine hfmt.out.mono ?_
    rintro e w2 ⟨rfl, k, v', dk, rfl, hF⟩
    have hcv : (convert 41 9 (.slice (some ⟨w.heap.size, 0, none⟩) (Lib.nDigits u) 24)).run Tryd.prog ((putRow (fun (b : UInt8) => Value.int .u8 (b.toNat : Int)) (w.alloc (.cells Lib.zeros24 95)) w.heap.size 0 dk).drewN k) = .ok (.string ⟨(Lib.decDigits u).toArray⟩) ((putRow (fun (b : UInt8) => Value.int .u8 (b.toNat : Int)) (w.alloc (.cells Lib.zeros24 95)) w.heap.size 0 dk).drewN k) := by
      have h := run_convert_bytes_back (P := Tryd.prog) ((putRow (fun (b : UInt8) => Value.int .u8 (b.toNat : Int)) (w.alloc (.cells Lib.zeros24 95)) w.heap.size 0 dk).drewN k) 41 9 5 ⟨w.heap.size, 0, none⟩ 24 (Lib.decDigits u) Tryd.underlying41 Tryd.underlying5 Tryd.underlying9 (fun j hj => by
        rw [Lib.row_is_numeral hF j hj, Lib.add_plain, World.cell?_drewN]
        exact cell?_putRow (fun (b : UInt8) => Value.int .u8 (b.toNat : Int)) _ w.heap.size 0 _ dk HH0.out (by rw [hF.size, Array.size_replicate]) j (by rw [hF.size]; rw [Lib.decDigits_length] at hj; exact hj))
      rw [Lib.decDigits_length] at h
      exact h
    have hBe : Below w.heap.size w ((putRow (fun (b : UInt8) => Value.int .u8 (b.toNat : Int)) (w.alloc (.cells Lib.zeros24 95)) w.heap.size 0 dk).drewN k) := by
      rw [alloc_eq_grow]
      obtain ⟨os', -, e⟩ := putRow_grow_new (fun (b : UInt8) => Value.int .u8 (b.toNat : Int)) w #[.cells Lib.zeros24 95] w.heap.size 0 dk (Nat.le_refl _)
      rw [e]
      exact Lib.below_grow _ w (Nat.le_refl _) k os'
    go_wp2_with (fail)
    go_ret
    exact ⟨rfl, hBe⟩

set_option maxRecDepth 100000 in
theorem FormatUint_any (u : Nat) (hu64 : u < 18446744073709551616) (w : World) (htab : Lib.TabIs Tryd.prog w "internal/strconv.uint64pow10" .u64 Lib.pow10Tab) :
    Calls Tryd.prog 41 #[.int .u64 u, .int .i64 10] w fun e w' => e = .returned (.string ⟨(Lib.decDigits u).toArray⟩) ∧ Below w.heap.size w w' := by
  have cI := hid (iFormatUint_any u hu64 w htab)
  go_enter Tryd.func41, Tryd.ntmps41
  go_wp2_with (fail)
  refine cI.out.mono ?_
  rintro e w1 ⟨rfl, b1⟩
  go_wp2_with (fail)
  go_ret
  exact ⟨rfl, b1⟩

/-- what strconv reads: its powers of ten, its two errors -/
def STabs (w : World) : Prop := Lib.TabIs Tryd.prog w "internal/strconv.uint64pow10" .u64 Lib.pow10Tab ∧ (∃ te pe, w.cell? ⟨4, 0, none⟩ = some (.iface te pe)) ∧ (∃ te pe, w.cell? ⟨5, 0, none⟩ = some (.iface te pe))
theorem tabIs_below {w w' : World} {name : String} {k : IntKind} {zs : List Int} (h : Lib.TabIs Tryd.prog w name k zs) (b : Below w.heap.size w w') : Lib.TabIs Tryd.prog w' name k zs := by
  unfold Lib.TabIs World.var? at *
  cases hg : Tryd.prog.globalNamed name with
  | none => simp [hg] at h
  | some g =>
    simp only [hg, Option.bind_some] at h ⊢
    have hlt : g < w.heap.size := by
      rcases Nat.lt_or_ge g w.heap.size with h' | h'
      · exact h'
      · rw [Array.getElem?_eq_none h'] at h; simp at h
    rw [b.block g hlt]
    exact h
theorem STabs.below {w w' : World} (h : STabs w) (b : Below w.heap.size w w') : STabs w' := by
  obtain ⟨h1, ⟨t1, p1, h2⟩, t2, p2, h3⟩ := h
  exact ⟨tabIs_below h1 b, ⟨t1, p1, (Kept.of_below b 0).cell h2⟩, t2, p2, (Kept.of_below b 0).cell h3⟩
theorem below_bytes (w : World) (t : TypeId) (s : ByteArray) : Below w.heap.size w (Lib.bytesWorld w t s) := by
  exact Go.Joins.below_bytesWorld _ w t s (Nat.le_refl _)

set_option maxRecDepth 100000 in
set_option maxHeartbeats 4000000 in
theorem number_any (s : ByteArray) (w : World) (hs : s.size ≤ 1000000) (hT : STabs w) :
    Calls Tryd.prog 34 #[.string s] w fun e w' => ∃ n : Int, e = .returned (.tuple #[.int .i64 n, .bool (numS s.data.toList).isSome]) ∧ (∀ m, numS s.data.toList = some m → n = m) ∧ Below w.heap.size w w' := by
  obtain ⟨-, ⟨ta, pa, hA⟩, tb, pb, hBb⟩ := id hT
  have hN : numS s.data.toList = match Lib.parseUintB 16 s.data.toList with | .ok n => if Lib.decDigits n = s.data.toList then some n else none | _ => none := rfl
  by_cases hok : ∃ u, Lib.parseUintB 16 s.data.toList = .ok u
  · obtain ⟨u, hp⟩ := hok
    rw [hp] at hN
    have hu : u ≤ 65535 := by
      unfold Lib.parseUintB at hp
      split at hp
      · cases hp
      · exact parse_le (M := 65535) (Nat.zero_le _) hp
    have huI : (u : Int) ≤ 65535 := by omega
    have hcv : IntKind.i64.wrap (u : Int) = (u : Int) := by rw [IntKind.wrap_i64]; omega
    have cP := hid (Tryd.strconv_ParseUint_10_at16_ok s (by omega) u hp w)
    obtain ⟨eb, heb⟩ : ∃ b : Bool, (Lib.decDigits u == s.toList) = b := ⟨_, rfl⟩
    have his : (numS s.data.toList).isSome = eb := by
      rw [hN, ← heb, Lib.toList_data]
      by_cases h : Lib.decDigits u = s.data.toList
      · simp [h]
      · simp [h]
    have hsm : ∀ m, numS s.data.toList = some m → (u : Int) = m := by
      intro m hm
      rw [hN] at hm
      dsimp only at hm
      split at hm
      · cases hm; rfl
      · cases hm
    rw [his]
    replace hN := hid hN
    replace hsm := hid hsm
    replace hp := hid hp
    clear his
    go_enter Tryd.func34, Tryd.ntmps34
    go_wp2_with (fail)
    refine cP.out.mono ?_
    rintro e w1 ⟨rfl, hw1⟩
    have b1 : Below w.heap.size w w1 := by
      rcases hw1 with rfl | rfl
      · exact Below.refl _ _
      · exact below_bytes _ _ _
    have cF := hid (FormatUint_any u (by omega) w1 (tabIs_below hT.1 b1))
    clear cP hw1
    go_wp2_with (fail)
    refine cF.out.mono ?_
    rintro e w2 ⟨rfl, b2⟩
    have B2 := b1.trans (b2.mono b1.size)
    cases eb
    · go_wp2_with (fail)
      go_ret2
      exact ⟨_, rfl, hsm.out, B2⟩
    · go_wp2_with (fail)
      go_ret2
      exact ⟨_, rfl, hsm.out, B2⟩
  · have hno : ∀ n, Lib.parseUintB 16 s.data.toList ≠ .ok n := fun n h => hok ⟨n, h⟩
    have hN : numS s.data.toList = none := by
      rw [hN]
      split
      · rename_i n h; exact absurd h (hno n)
      · rfl
    by_cases hr : Lib.parseUintB 16 s.data.toList = .range
    · have cP := hid (Tryd.strconv_ParseUint_10_at16_range s (by omega) hr _ w hBb (.inr ⟨_, _, rfl⟩))
      rw [hN]
      replace hN := hid hN
      replace hr := hid hr
      replace hno := hid hno
      replace hok := hid hok
      go_enter Tryd.func34, Tryd.ntmps34
      go_wp2_with (fail)
      refine cP.out.mono ?_
      rintro e w1 ⟨N, rfl, -, -, b1⟩
      go_wp2_with (fail)
      go_ret2
      exact ⟨_, rfl, fun m hm => (by cases hm), b1⟩
    · have cP := hid (Tryd.strconv_ParseUint_10_at16_bad s (by omega) hno hr _ w hA (.inr ⟨_, _, rfl⟩))
      rw [hN]
      replace hN := hid hN
      replace hr := hid hr
      replace hno := hid hno
      replace hok := hid hok
      go_enter Tryd.func34, Tryd.ntmps34
      go_wp2_with (fail)
      refine cP.out.mono ?_
      rintro e w1 ⟨N, rfl, -, -, b1⟩
      go_wp2_with (fail)
      go_ret2
      exact ⟨_, rfl, fun m hm => (by cases hm), b1⟩
end Go.Proofs.YtkmnmigpnbehaaaDoor
