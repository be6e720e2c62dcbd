/- Entries cloned. -/
import Derived.Test.YtomgjapjeckokaaIxR
namespace Go.Proofs.Ytomgjapjeckokaa
open Go.RowKit Go.Shelf Go.Lib

theorem encE_enc {l : List Ent} (h : ∀ e ∈ l, e.key.length = 32) : ∀ x ∈ l, (encE x).length = 35 ∧ ∀ u ∈ encE x, u.oneCell' = true := fun x hx => ⟨by rw [encE_len, h x hx], fun _ hu => one_encE hu⟩
theorem infoE_parts : ∃ i0 z, Try.prog.info? 48 = some i0 ∧ i0.zero = some z ∧ i0.size = 35 ∧ i0.bytes = 56 ∧ z.cells.size = 35 := by
  have h : (Try.prog.info? 48).map (fun i => (i.size, i.bytes, i.zero.map (·.cells.size))) = some (35, 56, some 35) := by kernel_rfl
  obtain ⟨i0, h1, h2⟩ := Option.map_eq_some_iff.1 h
  simp only [Prod.mk.injEq] at h2
  obtain ⟨z, h3, h4⟩ := Option.map_eq_some_iff.1 h2.2.2
  exact ⟨i0, z, h1, h3, h2.1, h2.2.1, h4⟩

set_option maxRecDepth 100000 in
set_option maxHeartbeats 400000 in
theorem eclone_any (l : List Ent) (a : Addr) (n cap : Nat) (w : World) (hs : Sl w 35 encE (.slice (some a) n cap) l) (hk : ∀ e ∈ l, e.key.length = 32) (hn : l.length ≤ 1000000) :
    Calls Try.prog 57 #[.slice (some a) n cap] w fun e w' => ∃ v', e = .returned v' ∧ w'.ownsRow w.heap.size 48 35 v' l.length (l.flatMap encE) ∧ v' ≠ .slice none 0 0 ∧ Below w.heap.size w w' := by
  obtain ⟨i0, z, hi, hz0, hz1, hz2, hz3⟩ := infoE_parts
  have q22 : ∀ (W : World) (a : Option Addr) (n c n' c' : Nat), (binOp .eql 22 (.slice a n c) (.slice none n' c')).run Try.prog W = .ok (.bool a.isNone) W := fun W a n c n' c' => Lib.run_eql_slice_nil W _ _ a n c n' c' Try.underlying22
  go_enter Try.func57, Try.ntmps57
  go_wp2_with (at_builtin; go_must (refine wpList_append_sl rfl _ _ 22 rfl w.heap.size 48 i0 z 35 56 Try.underlying22 hi hz0 hz1 hz2 hz3 (by decide) _ _ _ rfl (World.ownsRow_made w #[] 0 (Nat.le_refl _) (Nat.zero_le _) rfl) encE _ l rfl ((Kept.alloc 0 w _).sl hs) (encE_enc hk) (by unfold maxLen; omega) (by omega) (by simp) ?_; intro v1 w1 ho1 hg1 hn1))
  go_ret
  refine ⟨v1, rfl, by simpa using ho1, fun e => ?_, ?_⟩
  · have h9 := (hn1.1 e).1
    simp [Act.eval] at h9
  · exact ((Below.refl _ w).alloc (Nat.le_refl _) _).grown hg1 (by simp) (by intro k hk; simp [Value.ownBlock, Act.eval] at hk; omega)
end Go.Proofs.Ytomgjapjeckokaa
