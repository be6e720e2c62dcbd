/- The walks of index's Insert and Remove (printed by gen_iyd.py). -/
import Derived.Test.YtomgjapjeckokaaIyC
import Derived.Deep.RegionHeld3
namespace Go.Proofs.Ytomgjapjeckokaa
open Go.RowKit Go.Shelf Go.Lib

theorem posL_le (l : List Ent) (key : List UInt8) : posL l key ≤ l.length := List.findIdx_le_length
/-- what Insert and Remove answer: nothing and an error's number, or a list of their own -/
def AnsI (bad : Bool) (k : Int) (w' : World) (base n : Nat) (X : List Value) (v : Value) (er : Int) : Prop := (bad = true ∧ v = .slice none 0 0 ∧ er = k) ∨ (bad = false ∧ w'.ownsRow base 48 35 v n X ∧ v ≠ .slice none 0 0 ∧ er = 0)
def insS (l : List Ent) (e : Ent) : List Ent := l.take (posL l e.key) ++ [e] ++ l.drop (posL l e.key)
def remS (l : List Ent) (key : List UInt8) : List Ent := l.take (posL l key) ++ l.drop (posL l key + 1)

set_option maxRecDepth 100000 in
set_option maxHeartbeats 1000000 in
theorem Insert_any (l : List Ent) (e : Ent) (p : Option Addr) (cap : Nat) (w : World) (hs : Sl w 35 encE (.slice p l.length cap) l) (hl : l.length ≤ 1000000) (hk : ∀ e ∈ l, e.key.length = 32) (hke : e.key.length = 32) (hm : MonoL l e.key) :
    Calls Try.prog 24 #[.slice p l.length cap, .agg (rowE e)] w fun r w' => ∃ v' er, r = .returned (.tuple #[v', .int .i64 er]) ∧ Below w.heap.size w w' ∧ AnsI (foundL l e.key) 1 w' w.heap.size (l.length + 1) ((insS l e).flatMap encE) v' er := by
  obtain ⟨n₀, hn₀⟩ : ∃ n, w.heap.size = n := ⟨_, rfl⟩
  have cF := hid (fun W (hW : Sl W 35 encE (.slice p l.length cap) l) => Find_any l e.key p cap W hW hl hk hke hm)
  have cW := hid (fun W (hW : Sl W 35 encE (.slice p l.length cap) l) => with_any l e (posL l e.key) p cap W hW (posL_le l e.key) hl hk hke)
  obtain ⟨fb, hfb⟩ : ∃ x, foundL l e.key = x := ⟨_, rfl⟩
  have hins : l.take (posL l e.key) ++ [e] ++ l.drop (posL l e.key) = insS l e := rfl
  rw [hins] at cW
  clear hins
  obtain ⟨ps, hps⟩ : ∃ x, posL l e.key = x := ⟨_, rfl⟩
  rw [hps] at cF cW
  rw [hfb] at cF ⊢
  obtain ⟨X, hX⟩ : ∃ x, (insS l e).flatMap encE = x := ⟨_, rfl⟩
  rw [hX] at cW ⊢
  obtain ⟨n, hn⟩ : ∃ n, l.length = n := ⟨_, rfl⟩
  rw [hn] at hs cF cW ⊢
  have cO := hid (fun W => of_any p n cap W)
  have g1 := World.alloc_heap_new w (.cells (rowE e) 48)
  rw [hn₀] at g1
  have s1 := (Kept.alloc 0 w (.cells (rowE e) 48)).sl hs
  have B1 : Below n₀ w (w.alloc (.cells (rowE e) 48)) := by rw [← hn₀]; exact (Below.refl _ w).alloc (Nat.le_refl _) _
  have hi6 : (Try.prog.info? 48).map (·.size) = some (encE e).length := by rw [encE_len, hke]; kernel_rfl
  have hi7 : (Try.prog.info? 46).map (·.size) = some (keyV e.key).length := by rw [keyV_len, hke]; kernel_rfl
  clear hs hX hps
  replace hfb := hid hfb
  go_enter Try.func24, Try.ntmps24
  go_upto_region 1 with (fail)
  obtain ⟨W4, hW4⟩ : ∃ W : World, W = w.alloc (.cells (rowE e) 48) := ⟨_, rfl⟩
  rw [← hW4] at g1 s1 B1 ⊢
  clear hW4
  have hr := range_key (range_blk (cs := encE e) g1)
  replace s1 := hid s1
  go_wp2_with (refine wpList_load_mid rfl 46 _ rfl n₀ 0 rfl (keyV e.key) _ hr Try.underlying46 rfl hi7 ?_)
  refine (cF.out _ s1.out).mono ?_
  rintro r w2 ⟨rfl, b2⟩
  have g2 := (Kept.of_below b2 0).same _ _ g1 (.inl rfl)
  have s2 := (Kept.of_below b2 0).sl s1.out
  have B2 := B1.trans (b2.mono (by have := B1.size; omega))
  clear cF hr g1 s1 B1 b2
  cases fb with
  | true =>
    go_wp2_with (fail)
    go_ret2
    subst hn₀
    exact ⟨_, _, rfl, B2, .inl ⟨rfl, rfl, rfl⟩⟩
  | false =>
    go_upto_region 4 with (fail)
    have sW : Sl w2.drew 35 encE (.slice p n cap) l := (Kept.drewN 0 w2 1).sl s2
    have BW : Below n₀ w w2.drew := B2.drewN 1
    have hst : w2.drew.rangeAt n₀ 0 (encE e) := range_blk (w := w2.drew) (cs := encE e) g2
    clear g2 s2 B2
    refine wp_region_held_drew (S := (fun W => W.rangeAt n₀ 0 (encE e))) (by kernel_rfl) hst (fun hHeld => ?_)
    generalize w2.drew = W5 at *
    refine wpAnyH_take (i := 0) (oi := ⟨some 16, _, _, _, _, _⟩) (v := ?_) rfl (by kernel_rfl) (by kernel_rfl) (by kernel_rfl) (fun _ _ _ h => h) (Or.inl ⟨by rfl, ?_⟩) (by assumption) ?_
    rotate_left
    · intro w hSw; (try dsimp only at hSw); go_simp <;> with_reducible rfl
    try simp only [Act.put, List.setIfInBounds_toArray, List.set_cons_zero, List.set_cons_succ]
    refine wpAnyH_take (i := 2) (oi := ⟨some 18, _, _, _, _, _⟩) (v := ?_) rfl (by kernel_rfl) (by kernel_rfl) (by kernel_rfl) (fun _ _ _ h => h) (Or.inl ⟨by rfl, ?_⟩) (by assumption) ?_
    rotate_left
    · intro w hSw; (try dsimp only at hSw); go_simp <;> with_reducible rfl
    try simp only [Act.put, List.setIfInBounds_toArray, List.set_cons_zero, List.set_cons_succ]
    refine wpAnyH_take (i := 3) (oi := ⟨some 19, _, _, _, _, _⟩) rfl (by kernel_rfl) (by kernel_rfl) (by kernel_rfl) (fun _ _ _ h => h) (yieldsIf_load_mid (by rfl) 48 _ rfl n₀ 0 rfl (encE e) _ (fun w h => h) Try.underlying48 rfl hi6) (by assumption) ?_
    try simp only [Act.put, List.setIfInBounds_toArray, List.set_cons_zero, List.set_cons_succ]
    refine wpAnyH_ready (rs := [1]) (by kernel_rfl) (by simp) ?_
    refine AllReadyH.cons rfl (fun K hK => ?_) AllReadyH.nil
    go_simp
    refine (cO.out _).mono ?_
    rintro r w2 ⟨rfl, b2⟩
    have k2 := Kept.of_below b2 0
    have s2 := k2.sl sW
    have B2 := BW.trans (b2.mono (by have := BW.size; omega))
    refine hK.out _ _ (k2.range hHeld) (fun hHeld => ?_)
    clear hK K
    try simp only [Act.put, List.setIfInBounds_toArray, List.set_cons_zero, List.set_cons_succ]
    refine wpAnyH_ready (rs := [4]) (by kernel_rfl) (by simp) ?_
    refine AllReadyH.cons rfl (fun K hK => ?_) AllReadyH.nil
    go_simp
    refine (cW.out _ s2).mono ?_
    rintro r w7 ⟨v7, rfl, o7, hn7, b7⟩
    have o7' := ownsRow_mono o7 (show n₀ ≤ _ by have := B2.size; omega)
    have B7 := B2.trans (b7.mono (by have := B2.size; omega))
    refine hK.out _ _ ((Kept.of_below b7 0).range hHeld) (fun hHeld => ?_)
    clear hK K
    try simp only [Act.put, List.setIfInBounds_toArray, List.set_cons_zero, List.set_cons_succ]
    refine wpAnyH_take (i := 5) (oi := ⟨some 4, _, _, _, _, _⟩) (v := ?_) rfl (by kernel_rfl) (by kernel_rfl) (by kernel_rfl) (fun _ _ _ h => h) (Or.inl ⟨by rfl, ?_⟩) (by assumption) ?_
    rotate_left
    · intro w hSw; (try dsimp only at hSw); go_simp <;> with_reducible rfl
    try simp only [Act.put, List.setIfInBounds_toArray, List.set_cons_zero, List.set_cons_succ]
    refine wpAnyH_take (i := 6) (oi := ⟨some 5, _, _, _, _, _⟩) (v := ?_) rfl (by kernel_rfl) (by kernel_rfl) (by kernel_rfl) (fun _ _ _ h => h) (Or.inl ⟨by rfl, ?_⟩) (by assumption) ?_
    rotate_left
    · intro w hSw; (try dsimp only at hSw); go_simp <;> with_reducible rfl
    try simp only [Act.put, List.setIfInBounds_toArray, List.set_cons_zero, List.set_cons_succ]
    refine wpAnyH_done (by kernel_rfl) ?_ _
    go_wp2_with (fail)
    go_ret2
    subst hn₀
    exact ⟨v7, _, rfl, B7, .inr ⟨rfl, o7', hn7, rfl⟩⟩

set_option maxRecDepth 100000 in
set_option maxHeartbeats 1000000 in
theorem Remove_any (l : List Ent) (key : List UInt8) (p : Option Addr) (cap : Nat) (w : World) (hs : Sl w 35 encE (.slice p l.length cap) l) (hl : l.length ≤ 1000000) (hk : ∀ e ∈ l, e.key.length = 32) (hke : key.length = 32) (hm : MonoL l key) :
    Calls Try.prog 25 #[.slice p l.length cap, .agg (rowU key)] w fun r w' => ∃ v' er, r = .returned (.tuple #[v', .int .i64 er]) ∧ Below w.heap.size w w' ∧ AnsI (!foundL l key) 19 w' w.heap.size (l.length - 1) ((remS l key).flatMap encE) v' er := by
  obtain ⟨n₀, hn₀⟩ : ∃ n, w.heap.size = n := ⟨_, rfl⟩
  have cF := hid (fun W (hW : Sl W 35 encE (.slice p l.length cap) l) => Find_any l key p cap W hW hl hk hke hm)
  have cW := hid (fun W (hp : posL l key < l.length) (hW : Sl W 35 encE (.slice p l.length cap) l) => without_any l (posL l key) p cap W hW hp hl hk)
  obtain ⟨fb, hfb⟩ : ∃ x, foundL l key = x := ⟨_, rfl⟩
  have hpl : fb = true → posL l key < l.length := fun h => by rw [h] at hfb; unfold foundL at hfb; simp only [Bool.and_eq_true, decide_eq_true_eq] at hfb; exact hfb.1
  have hins : l.take (posL l key) ++ l.drop (posL l key + 1) = remS l key := rfl
  rw [hins] at cW
  clear hins
  obtain ⟨ps, hps⟩ : ∃ x, posL l key = x := ⟨_, rfl⟩
  rw [hps] at cF cW hpl
  rw [hfb] at cF ⊢
  obtain ⟨X, hX⟩ : ∃ x, (remS l key).flatMap encE = x := ⟨_, rfl⟩
  rw [hX] at cW ⊢
  obtain ⟨n, hn⟩ : ∃ n, l.length = n := ⟨_, rfl⟩
  rw [hn] at hs cF cW hpl ⊢
  have cO := hid (fun W => of_any p n cap W)
  have g1 := World.alloc_heap_new w (.cells (rowU key) 46)
  rw [hn₀] at g1
  have s1 := (Kept.alloc 0 w (.cells (rowU key) 46)).sl hs
  have B1 : Below n₀ w (w.alloc (.cells (rowU key) 46)) := by rw [← hn₀]; exact (Below.refl _ w).alloc (Nat.le_refl _) _
  have hi7 : (Try.prog.info? 46).map (·.size) = some (keyV key).length := by rw [keyV_len, hke]; kernel_rfl
  clear hs hX hps
  replace hfb := hid hfb
  replace hpl := hid hpl
  go_enter Try.func25, Try.ntmps25
  go_upto_region 1 with (fail)
  obtain ⟨W4, hW4⟩ : ∃ W : World, W = w.alloc (.cells (rowU key) 46) := ⟨_, rfl⟩
  rw [← hW4] at g1 s1 B1 ⊢
  clear hW4
  have hr := range_blk (cs := keyV key) g1
  replace s1 := hid s1
  go_wp2_with (refine wpList_load_mid rfl 46 _ rfl n₀ 0 rfl (keyV key) _ hr Try.underlying46 rfl hi7 ?_)
  refine (cF.out _ s1.out).mono ?_
  rintro r w2 ⟨rfl, b2⟩
  have s2 := (Kept.of_below b2 0).sl s1.out
  have B2 := B1.trans (b2.mono (by have := B1.size; omega))
  clear cF hr g1 s1 B1 b2
  cases fb with
  | false =>
    go_wp2_with (fail)
    go_ret2
    subst hn₀
    exact ⟨_, _, rfl, B2, .inl ⟨rfl, rfl, rfl⟩⟩
  | true =>
    replace s2 := hid s2
    go_wp2_with (fail)
    refine (cO.out _).mono ?_
    rintro r w3 ⟨rfl, b3⟩
    have s3 := (Kept.of_below b3 0).sl s2.out
    have B3 := B2.trans (b3.mono (by have := B2.size; omega))
    replace s3 := hid s3
    go_wp2_with (fail)
    refine (cW.out _ (hpl.out (by first | trivial | rfl)) s3.out).mono ?_
    rintro r w7 ⟨v7, rfl, o7, hn7, b7⟩
    have o7' := ownsRow_mono o7 (show n₀ ≤ _ by have := B3.size; omega)
    have B7 := B3.trans (b7.mono (by have := B3.size; omega))
    go_wp2_with (fail)
    go_ret2
    subst hn₀
    exact ⟨v7, _, rfl, B7, .inr ⟨rfl, o7', hn7, rfl⟩⟩
end Go.Proofs.Ytomgjapjeckokaa
