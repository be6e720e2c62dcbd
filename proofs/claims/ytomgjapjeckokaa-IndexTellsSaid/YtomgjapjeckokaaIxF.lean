/- Bytes cloned. -/
import Derived.Test.YtomgjapjeckokaaIxE
import Derived.Lib.LazyBuf
namespace Go.Proofs.Ytomgjapjeckokaa
open Go.RowKit Go.Shelf Go.Lib

theorem encU_enc (l : List UInt8) : ∀ x ∈ l, (encU x).length = 1 ∧ ∀ u ∈ encU x, u.oneCell' = true := fun x _ => ⟨rfl, fun u hu => by
  obtain rfl : u = .int .u8 x.toNat := by simpa [encU] using hu
  rfl⟩
theorem Try.infoU8 : (Try.prog.info? 5).map (fun i => (i.zero, i.size, i.bytes)) = some (some (.int .u8 0), 1, 1) := by kernel_rfl
theorem infoU8_parts : ∃ i0, Try.prog.info? 5 = some i0 ∧ i0.zero = some (.int .u8 0) ∧ i0.size = 1 ∧ i0.bytes = 1 := by
  obtain ⟨i0, h1, h2⟩ := Option.map_eq_some_iff.1 Try.infoU8
  simp only [Prod.mk.injEq] at h2
  exact ⟨i0, h1, h2.1, h2.2.1, h2.2.2⟩

set_option maxRecDepth 100000 in
set_option maxHeartbeats 400000 in
theorem bclone_any (bl : List UInt8) (a : Addr) (n cap : Nat) (w : World) (hs : Sl w 1 encU (.slice (some a) n cap) bl) (hn : bl.length ≤ 1000000) :
    Calls Try.prog 74 #[.slice (some a) n cap] w fun e w' => ∃ v', e = .returned v' ∧ w'.ownsRow w.heap.size 5 1 v' bl.length (bl.flatMap encU) ∧ v' ≠ .slice none 0 0 ∧ Below w.heap.size w w' := by
  obtain ⟨i0, hi, hz0, hz1, hz2⟩ := infoU8_parts
  have q22 : ∀ (W : World) (a : Option Addr) (n c n' c' : Nat), (binOp .eql 54 (.slice a n c) (.slice none n' c')).run Try.prog W = .ok (.bool a.isNone) W := fun W a n c n' c' => Lib.run_eql_slice_nil W _ _ a n c n' c' Try.underlying54
  go_enter Try.func74, Try.ntmps74
  go_wp2_with (at_builtin; go_must (refine wpList_append_sl rfl _ _ 54 rfl w.heap.size 5 i0 (.int .u8 0) 1 1 Try.underlying54 hi hz0 hz1 hz2 rfl (by decide) _ _ _ rfl (World.ownsRow_made w #[] 0 (Nat.le_refl _) (Nat.zero_le _) rfl) encU _ bl rfl ((Kept.alloc 0 w _).sl hs) (encU_enc bl) (by unfold maxLen; omega) (by omega) (by simp) ?_; intro v1 w1 ho1 hg1 hn1))
  go_ret
  refine ⟨v1, rfl, by simpa using ho1, fun e => ?_, ?_⟩
  · have h9 := (hn1.1 e).1
    simp [Act.eval] at h9
  · exact ((Below.refl _ w).alloc (Nat.le_refl _) _).grown hg1 (by simp) (by intro k hk; simp [Value.ownBlock, Act.eval] at hk; omega)
set_option maxRecDepth 100000 in
set_option maxHeartbeats 400000 in
theorem sclone_any (bl : List UInt8) (a : Addr) (n cap : Nat) (w : World) (hs : Sl w 1 encU (.slice (some a) n cap) bl) (hn : bl.length ≤ 1000000) :
    Calls Try.prog 60 #[.slice (some a) n cap] w fun e w' => ∃ v', e = .returned v' ∧ w'.ownsRow w.heap.size 5 1 v' bl.length (bl.flatMap encU) ∧ v' ≠ .slice none 0 0 ∧ Below w.heap.size w w' := by
  obtain ⟨i0, hi, hz0, hz1, hz2⟩ := infoU8_parts
  have q22 : ∀ (W : World) (a : Option Addr) (n c n' c' : Nat), (binOp .eql 54 (.slice a n c) (.slice none n' c')).run Try.prog W = .ok (.bool a.isNone) W := fun W a n c n' c' => Lib.run_eql_slice_nil W _ _ a n c n' c' Try.underlying54
  go_enter Try.func60, Try.ntmps60
  go_wp2_with (at_builtin; go_must (refine wpList_append_sl rfl _ _ 54 rfl w.heap.size 5 i0 (.int .u8 0) 1 1 Try.underlying54 hi hz0 hz1 hz2 rfl (by decide) _ _ _ rfl (World.ownsRow_made w #[] 0 (Nat.le_refl _) (Nat.zero_le _) rfl) encU _ bl rfl ((Kept.alloc 0 w _).sl hs) (encU_enc bl) (by unfold maxLen; omega) (by omega) (by simp) ?_; intro v1 w1 ho1 hg1 hn1))
  go_ret
  refine ⟨v1, rfl, by simpa using ho1, fun e => ?_, ?_⟩
  · have h9 := (hn1.1 e).1
    simp [Act.eval] at h9
  · exact ((Below.refl _ w).alloc (Nat.le_refl _) _).grown hg1 (by simp) (by intro k hk; simp [Value.ownBlock, Act.eval] at hk; omega)
end Go.Proofs.Ytomgjapjeckokaa
