/- The walk of the reference's Dec. -/
import Derived.Test.YtkmnmigpnbehaaaDoorScF
namespace Go.Proofs.YtkmnmigpnbehaaaDoor
open Go.RowKit Go.Shelf Go.Lib

set_option maxRecDepth 100000 in
set_option maxHeartbeats 4000000 in
theorem Dec_any (n : Nat) (hn : n < 9223372036854775808) (w : World) :
    Calls Tryd.prog 12 #[.int .i64 n] w fun e w' => e = .returned (.string ⟨(Lib.decDigits n).toArray⟩) ∧ Below w.heap.size w w' := by
  have hlen : (Lib.decDigits n).length ≤ 20 := by
    rw [Lib.decDigits_length]
    by_cases h : n = 0
    · subst h; decide +kernel
    · have := Lib.numDigits_eq n (by omega) (by omega); split at this <;> omega
  go_enter Tryd.func12, Tryd.ntmps12
  have hn0 : ¬ (n : Int) < 0 := by omega
  go_wp2_with (fail)
  go_loopw [0, 3] (fun nv sv wr => ∃ (m : Nat) (S : ByteArray), nv = .int .i64 m ∧ sv = .string S ∧ m ≤ n ∧ Lib.decDigits n = Lib.decDigits m ++ S.data.toList ∧ Below w.heap.size w wr) (fun nv _ _ => (RowKit.intOf nv).toNat)
  case atStart => exact ⟨n, ⟨#[]⟩, rfl, rfl, Nat.le_refl _, by simp, Below.refl _ _⟩
  case round =>
    obtain ⟨m, S, rfl, rfl, hm, hD, hB⟩ := hrel
    have hS : S.size ≤ 20 := by
      rw [Lib.size_eq]
      rw [hD, List.length_append] at hlen
      omega
    have hmod : (m : Int).tmod 10 = ((m % 10 : Nat) : Int) := rfl
    have hmod2 : (m : Int) % 10 = ((m % 10 : Nat) : Int) := rfl
    have hdiv : (m : Int).tdiv 10 = ((m / 10 : Nat) : Int) := rfl
    have hdiv2 : (m : Int) / 10 = ((m / 10 : Nat) : Int) := rfl
    obtain ⟨d, hd⟩ : ∃ d, m % 10 = d := ⟨_, rfl⟩
    obtain ⟨q, hq⟩ : ∃ q, m / 10 = q := ⟨_, rfl⟩
    have hd10 : d < 10 := by omega
    have hmq : m = 10 * q + d := by omega
    rw [hd] at hmod hmod2
    rw [hq] at hdiv hdiv2
    have hw1 : IntKind.u8.wrap (d : Int) = (d : Int) := by rw [IntKind.wrap_u8]; omega
    have hw2 : IntKind.u8.wrap (48 + (d : Int)) = 48 + (d : Int) := by rw [IntKind.wrap_u8]; omega
    obtain ⟨nb, hb⟩ : ∃ b, UInt8.ofNat (48 + d) = b := ⟨_, rfl⟩
    have hnb : (nb.toNat : Int) = 48 + (d : Int) := by rw [← hb, UInt8.toNat_ofNat']; omega
    have hdd : Lib.decDigits m = if m < 10 then [UInt8.ofNat (48 + m)] else Lib.decDigits q ++ [nb] := by
      rw [Lib.decDigits, hd, hq, ← hb]; rfl
    have hal := World.alloc_heap_new wr (.cells #[.int .u8 (48 + (d : Int))] 5)
    have hcv : (convert 41 9 (.slice (some ⟨wr.heap.size, 0, none⟩) 1 1)).run Tryd.prog (wr.alloc (.cells #[.int .u8 (48 + (d : Int))] 5)) = .ok (.string ⟨#[nb]⟩) (wr.alloc (.cells #[.int .u8 (48 + (d : Int))] 5)) := run_convert_bytes_back (P := Tryd.prog) _ 41 9 5 ⟨wr.heap.size, 0, none⟩ 1 [nb] Tryd.underlying41 Tryd.underlying5 Tryd.underlying9 (fun j hj => by
      have hj0 : j = 0 := by simpa using hj
      subst hj0
      rw [Lib.add_plain]
      refine cell_blk hal ?_
      show some (Value.int .u8 (48 + (d : Int))) = some (Value.int .u8 _)
      rw [List.getElem_cons_zero, hnb])
    have hB2 := hB.alloc hB.size (.cells #[.int .u8 (48 + (d : Int))] 5)
    replace hD := hid hD
    replace hdd := hid hdd
    replace hmq := hid hmq
    replace hd := hid hd
    replace hq := hid hq
    replace hnb := hid hnb
    replace hb := hid hb
    clear hal hlen
    by_cases hq0 : q = 0
    · have hqb : ((q : Int) == 0) = true := by rw [hq0]; rfl
      have hfin : Lib.decDigits n = nb :: S.data.toList := by
        have h9 := hmq.out
        rw [hD.out, hdd.out, if_pos (by omega)]
        have : m = d := by omega
        rw [this, hb.out]; rfl
      replace hfin := hid hfin
      go_wp2_with (fail)
      go_ret
      refine ⟨?_, hB2⟩
      have e : (⟨#[nb]⟩ ++ S : ByteArray) = ⟨(nb :: S.data.toList).toArray⟩ := by
        apply ba_ext8
        rw [ByteArray.data_append, Array.toList_append]; rfl
      rw [hfin.out, ← e]; rfl
    · have hqb : ((q : Int) == 0) = false := by rw [beq_eq_false_iff_ne]; omega
      have hfin : Lib.decDigits n = Lib.decDigits q ++ (⟨#[nb]⟩ ++ S : ByteArray).data.toList := by
        have h9 := hmq.out
        rw [hD.out, hdd.out, if_neg (by omega), ByteArray.data_append, Array.toList_append, List.append_assoc]
      replace hfin := hid hfin
      go_wp2_with (fail)
      have h9 := hmq.out
      exact ⟨⟨q, ⟨#[nb]⟩ ++ S, rfl, rfl, by omega, hfin.out, hB2⟩, by simp [RowKit.intOf]; omega⟩
end Go.Proofs.YtkmnmigpnbehaaaDoor
