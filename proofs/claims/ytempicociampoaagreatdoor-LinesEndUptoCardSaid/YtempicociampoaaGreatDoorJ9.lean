/- More on ranges over a function: things in blocks of their own (by gen_rangex.py). Plain laws of lines: where a way's line ends, how its first pieces stand. A region that defers nothing, drawn in a round of a loop over a function, is walked as outside of every round: operations may be taken first. The walk of the document's Good, of styles (printed by gen_lpa.py). 'append' to an own row as a single operation, inside a fence; cells that were laid ahead of a call. -/
import Derived.Test.YtempicociampoaaGreatDoorRangeX
import Derived.Test.YtempicociampoaaGreatDoorJ8
import Derived.Deep.DeepCutAuto
import Derived.Deep.QuietTactic
import Derived.BigRegionIn
namespace Go.Proofs.YtempicociampoaaGreatDoor
open Go.RowKit

/-- the statement, outside of every round, whose assignments lay each thing in a block of its own -/
theorem range_boxX {N : TypeId → Bool} {P : Program} {α : Type} {g : Operand} {ps : Array Tmp} {assign body : Code} {Q : Exit → Act → World → Prop} {a : Act} {w : World} {gf : Nat} {lb : Array Value}
  {encs : α → Array Value} {Adm : List α → α → World → Prop} {S Sp : List α → World → Prop} {R : World → Prop}
  (hg : a.eval g = .func (.func gf) #[] lb) (eg : ∀ args w, (callFunc gf args).run P w = .ok (.enter gf args) w)
  (hseq : SeqX P N gf lb encs R Adm S Sp) (hps : ∀ x, (encs x).size = ps.size) (I : List α → World → Prop) (Ix : Code → List α → World → Prop)
  (hI : ∀ s, StX N w.heap.size (I s)) (hIx : ∀ c s, StX N w.heap.size (Ix c s)) (hR : ∀ B, St B R) (hAdm : ∀ pre x, St w.heap.size (Adm pre x)) (hS : ∀ xs, St w.heap.size (S xs)) (hSp : ∀ xs, St w.heap.size (Sp xs))
  (hsz : ∀ pre W, I pre W → w.heap.size ≤ W.heap.size) (h0 : I [] w) (hR0 : R w)
  (mk : Nat → α → Act) (cs : α → Array Value) (tI : TypeId)
  (hassign : ∀ (l : Nat) (x : α) (j : Nat) (W : World) (K : Act → World → Prop), W.heap.size = j → K (mk j x) (W.alloc (.cells (cs x) tI)) →
   assign.wpIn (Fence.wide.inRound l) 0 P (Exit.then K (fun _ _ _ => False)) { tmps := (ps.zip (encs x)).foldl (fun t (p, v) => t.setIfInBounds p v) a.tmps, defers := [] } W)
  (hbody : ∀ (l : Nat) (pre : List α) (x : α) (j : Nat) (W : World), w.heap.size ≤ l → (∃ r, W.heap[l]? = some (.loop r)) → I pre W → R W → Adm pre x W → w.heap.size ≤ j → W.heap[j]? = some (.cells (cs x) tI (0, 0)) →
   body.wpIn (Fence.wide.inRound l) 0 P (rpostX N w.heap.size R I Ix (pre ++ [x]) W) (mk j x) W)
  (hdone : ∀ (D : Nat) (xs : List α) (W : World), w.heap.size ≤ D → S xs W → I xs W → R W → W.heap[D]? = some (.deferred (some [])) → Q .normal { a with defers := { target := .collected D, args := #[] } :: a.defers } W)
  (hstop : ∀ (D : Nat) (c : Code) (pre : List α) (W : World), w.heap.size ≤ D → Sp pre W → Ix c pre W → W.heap[D]? = some (.deferred (some [])) →
   c.wpIn Fence.wide 0 P Q { a with defers := { target := .collected D, args := #[] } :: a.defers } W) :
  (Code.rangeFunc g ps assign body).wpIn Fence.wide 0 P Q a w :=
 range_lawX hg eg hseq hps I Ix hI hIx (hR _) hAdm h0 hR0 (fun x a' W => ∃ j, w.heap.size ≤ j ∧ a' = mk j x ∧ W.heap[j]? = some (.cells (cs x) tI (0, 0)))
  (fun _ _ _ _ hk ⟨j, h1, h2, h3⟩ => ⟨j, h1, h2, hk.same _ _ h3 (.inl rfl)⟩)
  (fun l pre x W K hi hr ha hK => hassign l x _ W K rfl (hK _ _ (KeepsX.alloc _ W _) (hR 0 _ _ (Kept.alloc _ _ _) hr) (hI _ _ _ (Kept.alloc _ _ _).x hi) (hAdm _ _ _ _ (Kept.alloc _ _ _) ha) ⟨_, hsz _ _ hi, rfl, World.alloc_heap_new W _⟩))
  (fun l pre x a' W hl hr2 hi hr ha hax => by obtain ⟨j, hj, rfl, hb⟩ := hax; exact hbody l pre x j W hl hr2 hi hr ha hj hb) hdone hstop hS hSp


theorem KeepsX.grown {N : TypeId → Bool} (B : Nat) {W W' : World} {row : Option Nat} (hg : W.grownBy W' row) (hrow : ∀ j o, row = some j → W.heap[j]? = some o → o.isCells = true ∧ ownT N o = false) : KeepsX N B W W' :=
 ⟨hg.size, fun k o _ hk ho => by
  by_cases e : some k = row
  ·obtain ⟨h1, h2⟩ := hrow k o e.symm hk
   rcases ho with ho | ho
   ·rw [h1] at ho; cases ho
   ·rw [h2] at ho; cases ho
  ·exact (hg.block k (Array.getElem?_eq_some_iff.1 hk).1 e).trans hk⟩
theorem owns_type {N : TypeId → Bool} {W : World} {base : Nat} {e : TypeId} {size : Nat} {v : Value} {n : Nat} {xs : List Value} (h : W.ownsRow base e size v n xs) (ht : N e = false) : ∀ j o, v.ownBlock = some j → W.heap[j]? = some o → o.isCells = true ∧ ownT N o = false := by
 intro j o hj ho
 rcases h.2 with ⟨rfl, _⟩ | ⟨g, cap, cur, rfl, hg, hh, _⟩
 ·simp [Value.ownBlock] at hj
 ·simp [Value.ownBlock] at hj
  subst hj
  rw [hh] at ho; cases ho
  exact ⟨rfl, ht⟩

end Go.Proofs.YtempicociampoaaGreatDoor
namespace Go.Proofs.YtempicociampoaaGreatDoor
open Go.RowKit

section
variable {tw : ByteArray → Int}
theorem moved_all {d : Int} {s a : Sm} (_h3 : 0 ≤ s.z) (e1 : a.y = s.y) (e2 : a.z = s.z) : moved d s a = if 0 ≤ d then (if s.y = 0 then 0 else d) else -(min (-d) s.z) := by
 unfold moved
 rw [e1, e2]
 split
 ·split
  ·rename_i h; rw [h, spread_nil]
  ·rename_i h; exact spread_self h
 ·by_cases hz : s.z = 0
  ·rw [hz, spread_nil]; omega
  ·rw [spread_self hz]
/-- where a line ends -/
theorem Wl.ends {l : List It} (hl : Wl tw l) (hdash : tw dash = 4) (hpw : ∀ x ∈ l, x.kind = 3 → x.w = 4) {f t : Nat} (hf : stp l f) (hft : f < t) (h1 : t ≤ l.length) (h2 : ∀ x, l[t]? = some x → x.kind ≠ 1) (d : Int) :
  endW tw (allPcs d (lineSm l f t) l f t) = (lineSm l f t).w + (if 0 ≤ d then (if (lineSm l f t).y = 0 then 0 else d) else -(min (-d) (lineSm l f t).z)) ∧ allPcs d (lineSm l f t) l f t ≠ [] := by
 have es : lineSm l f t = ⟨(smOf (mid l f t)).w + penW l t, (smOf (mid l f t)).y, (smOf (mid l f t)).z⟩ := if_pos hft
 have hsb := lineSm_bd l f t
 generalize lineSm l f t = s at *
 have sy : (smOf (mid l f t)).y = s.y := by rw [es]
 have sz : (smOf (mid l f t)).z = s.z := by rw [es]
 have sw' : s.w = (smOf (mid l f t)).w + penW l t := by rw [es]
 obtain ⟨x, hx, hxb⟩ := hl.ahead (by omega) h1 h2
 have hw := ((hl.lw hf (t - 1) (by omega) x hx).1 hxb).text (d := d) hsb.2.1.1 hsb.2.2.1
 rw [show t - 1 + 1 = t by omega] at hw
 obtain ⟨w1, w2, -⟩ := hw
 have hm := moved_all (d := d) hsb.2.2.1 sy sz
 unfold cur at w2
 rw [hm] at w2
 unfold allPcs
 by_cases hp : isPen l t = true
 ·rw [if_pos hp, endW_snoc, hm, hdash]
  have hw4 : penW l t = 4 := by
   unfold isPen at hp
   unfold penW
   split at hp
   ·rename_i y hy
    have hk : y.kind = 3 := by simpa using hp
    simp only [if_pos hk, hpw y (List.mem_of_getElem? hy) hk]; decide
   ·cases hp
  exact ⟨by dsimp only; omega, by simp⟩
 ·rw [if_neg hp, List.append_nil]
  have hw0 : penW l t = 0 := by
   unfold isPen at hp
   unfold penW
   split
   ·rename_i y hy
    rw [hy] at hp
    rw [if_neg (by simpa using hp)]
   ·rfl
  exact ⟨by omega, w1⟩
theorem moved_zero {d : Int} {s a : Sm} (h1 : a.y = 0) (h2 : a.z = 0) : moved d s a = 0 := by unfold moved; rw [h1, h2]; simp [spread_zero]
theorem pcs_sizes (d : Int) (s : Sm) : ∀ (m : List It) (a : Sm), ∀ p ∈ pcs d s a m, p.2.size ≠ 0
 | [], _, p, h => by simp [pcs] at h
 | x :: m, a, p, h => by
  rw [pcs] at h
  split at h
  ·rename_i hx
   rcases List.mem_cons.1 h with rfl | h
   ·exact hx.2
   ·exact pcs_sizes d s m _ p h
  ·exact pcs_sizes d s m _ p h
/-- no piece is of nothing -/
theorem all_sizes {d : Int} {s : Sm} {l : List It} {f t : Nat} : ∀ p ∈ allPcs d s l f t, p.2.size ≠ 0 := fun p h => by
 unfold allPcs at h
 rcases List.mem_append.1 h with h | h
 ·exact pcs_sizes d s _ _ p h
 ·split at h
  ·obtain rfl := List.mem_singleton.1 h; exact (show dash.size ≠ 0 by decide)
  ·cases h
/-- how a line that is overfull, or is none, ends (of a width that counts) -/
theorem over_ends {l : List It} {wd tol n : Int} {t : Nat} (_hwd : 0 ≤ wd ∧ wd ≤ 10000) (hz : (lineSm l (firstL l n) t).z < 10000) (h : (liS l wd tol n t).over = true) : (lineSm l (firstL l n) t).z < -(wd - (lineSm l (firstL l n) t).w) := by
 unfold liS at h
 split at h
 ·cases h
 ·rename_i h9
  unfold lbad at h9
  split at h9
  ·exact absurd rfl h9
  ·obtain ⟨h1, h2⟩ := badS_no (by simpa using h9)
   have := (lineSm_bd l (firstL l n) t).2.2.1
   unfold cutI at h2
   omega
theorem fits_ends {l : List It} {wd tol n : Int} {t : Nat} (hz : (lineSm l (firstL l n) t).z < 10000) (h : (liS l wd tol n t).over = false) : -(wd - (lineSm l (firstL l n) t).w) ≤ (lineSm l (firstL l n) t).z := by
 have hz0 := (lineSm_bd l (firstL l n) t).2.2.1
 unfold liS at h
 split at h
 ·rename_i h9
  unfold lbad at h9
  split at h9
  ·rename_i h8; omega
  ·unfold badS badO at h9
   split at h9
   ·rename_i h8; unfold cutI at h8; omega
   ·split at h9
    ·rename_i h8; unfold cutI at h8; omega
    ·split at h9
     ·cases h9
     ·rename_i h8
      unfold cutI at h8
      omega
 ·cases h
end
end Go.Proofs.YtempicociampoaaGreatDoor
namespace Go.Proofs.YtempicociampoaaGreatDoor
open Go.RowKit
def noDefer (ops : Array Oper) : Bool := ops.toList.all fun o => match o.op with | .defer _ => false | _ => true
theorem oper_out {F : Fence} {n l : Nat} {P : Program} {o : Oper} {a : Act} {w : World} {K : Act → World → Prop} {Q : Exit → Act → World → Prop} (ho : ∀ c, o.op ≠ .defer c) (_hr : F.round = none)
  (h : o.wpIn F n P a w K Q) : o.wpIn (F.inRound l) n P a w K Q := by
 unfold Oper.wpIn at *
 rw [Oper.semAt_eq _ _ _ ho] at h ⊢
 exact h
theorem opIn_out {F : Fence} {n l i : Nat} {P : Program} {ops : Array Oper} {a : Act} {w : World} {K : Act → World → Prop} {Q : Exit → Act → World → Prop} (hn : noDefer ops = true) (hr : F.round = none)
  (h : wpOpIn F n P ops Q i K a w) : wpOpIn (F.inRound l) n P ops Q i K a w := by
 unfold wpOpIn at *
 cases ho : ops[i]? with
 | none => simpa [ho] using h
 | some o =>
  simp only [ho] at h ⊢
  have hd : ∀ c, o.op ≠ .defer c := by
   intro c hc
   have h1 := List.all_eq_true.1 hn o (Array.mem_toList_iff.2 (Array.mem_of_getElem? ho))
   rw [hc] at h1; cases h1
  split
  ·rename_i hw; rw [if_pos hw] at h; exact oper_out hd hr h
  ·rename_i hw; rw [if_neg hw] at h; exact h
theorem anyIn_out {F : Fence} {n l : Nat} {P : Program} {md : Region.Mode} {ops : Array Oper} {Q : Exit → Act → World → Prop} (hn : noDefer ops = true) (hr : F.round = none) :
  ∀ (fuel : Nat) (listed : Array Bool) (a : Act) (w : World), wpAnyIn F n P md ops Q fuel listed a w → wpAnyIn (F.inRound l) n P md ops Q fuel listed a w := by
 intro fuel
 induction fuel with
 | zero => intro listed a w h; exact h
 | succ fuel ih =>
  intro listed a w h
  exact ⟨h.1, fun i hi => opIn_out hn hr (wpOpIn_mono (fun a w => ih _ _ _) (h.2 i hi))⟩
theorem region_out {F : Fence} {n l id : Nat} {P : Program} {ops : Array Oper} {Q : Exit → Act → World → Prop} {a : Act} {w : World} (hm : P.follows .mixedOrders = true) (hn : noDefer ops = true) (hr : F.round = none)
  (h : wpAnyIn F n P .any ops Q ops.size (Array.replicate ops.size false) a w.drew) : (Code.region id ops true).wpIn (F.inRound l) n P Q a w :=
 wpIn_region_any hm (anyIn_out hn hr _ _ _ _ h)
end Go.Proofs.YtempicociampoaaGreatDoor
namespace Go.Proofs.YtempicociampoaaGreatDoor
open Go.RowKit Go.Shelf Go.Lib

/-- may a style be? -/
def goodS (a b c d e : Int) : Bool := decide (40 ≤ a ∧ a ≤ 400 ∧ 3 ≤ b ∧ b ≤ 20 ∧ 0 ≤ c ∧ c ≤ 10000 ∧ 0 ≤ d ∧ d ≤ 1000 ∧ 0 ≤ e ∧ e ≤ 30)
set_option maxRecDepth 100000 in
set_option maxHeartbeats 4000000 in
theorem rGoodS_any (a b c d e : Int) (w : World) : Calls Tryz.prog 18 #[.agg #[.int .i64 a, .int .i64 b, .int .i64 c, .int .i64 d, .int .i64 e]] w fun r w' => r = .returned (.bool (goodS a b c d e)) ∧ Below w.heap.size w w' := by
 have g1 := World.alloc_heap_new w (.cells #[.int .i64 a, .int .i64 b, .int .i64 c, .int .i64 d, .int .i64 e] 26)
 have B1 : Below w.heap.size w (w.alloc (.cells #[.int .i64 a, .int .i64 b, .int .i64 c, .int .i64 d, .int .i64 e] 26)) := (Below.refl _ w).alloc (Nat.le_refl _) _
 obtain ⟨n₀, hn₀⟩ : ∃ n, w.heap.size = n := ⟨_, rfl⟩
 obtain ⟨W1, hW1⟩ : ∃ W : World, W = w.alloc (.cells #[.int .i64 a, .int .i64 b, .int .i64 c, .int .i64 d, .int .i64 e] 26) := ⟨_, rfl⟩
 rw [← hW1, hn₀] at g1 B1
 rw [hn₀]
 have s0 : W1.cell? ⟨n₀, 0, none⟩ = some (.int .i64 a) := cell_blk (i := 0) g1 rfl
 have s1 : W1.cell? ⟨n₀, 1, none⟩ = some (.int .i64 b) := cell_blk (i := 1) g1 rfl
 have s2 : W1.cell? ⟨n₀, 2, none⟩ = some (.int .i64 c) := cell_blk (i := 2) g1 rfl
 have s3 : W1.cell? ⟨n₀, 3, none⟩ = some (.int .i64 d) := cell_blk (i := 3) g1 rfl
 have s4 : W1.cell? ⟨n₀, 4, none⟩ = some (.int .i64 e) := cell_blk (i := 4) g1 rfl
 clear g1
 by_cases h0 : 40 ≤ a
 ·skip
  by_cases h1 : a ≤ 400
  ·skip
   by_cases h2 : 3 ≤ b
   ·skip
    by_cases h3 : b ≤ 20
    ·skip
     by_cases h4 : 0 ≤ c
     ·skip
      by_cases h5 : c ≤ 10000
      ·skip
       by_cases h6 : 0 ≤ d
       ·skip
        by_cases h7 : d ≤ 1000
        ·skip
         by_cases h8 : 0 ≤ e
         ·skip
          by_cases h9 : e ≤ 30
          ·skip
           have hq : goodS a b c d e = true := by unfold goodS; exact decide_eq_true ⟨h0, h1, h2, h3, h4, h5, h6, h7, h8, h9⟩
           replace hq := hid hq
           go_enter Tryz.func18, Tryz.ntmps18
           go_upto_region 1 with (fail)
           rw [← hW1]
           clear hW1
           try simp only [hn₀]
           go_wp2_with (fail)
           go_ret
           exact ⟨by rw [hq.out]; rfl, B1⟩
          ·have hq : goodS a b c d e = false := by unfold goodS; exact decide_eq_false (fun h => h9 (by omega))
           replace hq := hid hq
           go_enter Tryz.func18, Tryz.ntmps18
           go_upto_region 1 with (fail)
           rw [← hW1]
           clear hW1
           try simp only [hn₀]
           go_wp2_with (fail)
           go_ret
           exact ⟨by rw [hq.out]; rfl, B1⟩
         ·have hq : goodS a b c d e = false := by unfold goodS; exact decide_eq_false (fun h => h8 (by omega))
          replace hq := hid hq
          go_enter Tryz.func18, Tryz.ntmps18
          go_upto_region 1 with (fail)
          rw [← hW1]
          clear hW1
          try simp only [hn₀]
          go_wp2_with (fail)
          go_ret
          exact ⟨by rw [hq.out]; rfl, B1⟩
        ·have hq : goodS a b c d e = false := by unfold goodS; exact decide_eq_false (fun h => h7 (by omega))
         replace hq := hid hq
         go_enter Tryz.func18, Tryz.ntmps18
         go_upto_region 1 with (fail)
         rw [← hW1]
         clear hW1
         try simp only [hn₀]
         go_wp2_with (fail)
         go_ret
         exact ⟨by rw [hq.out]; rfl, B1⟩
       ·have hq : goodS a b c d e = false := by unfold goodS; exact decide_eq_false (fun h => h6 (by omega))
        replace hq := hid hq
        go_enter Tryz.func18, Tryz.ntmps18
        go_upto_region 1 with (fail)
        rw [← hW1]
        clear hW1
        try simp only [hn₀]
        go_wp2_with (fail)
        go_ret
        exact ⟨by rw [hq.out]; rfl, B1⟩
      ·have hq : goodS a b c d e = false := by unfold goodS; exact decide_eq_false (fun h => h5 (by omega))
       replace hq := hid hq
       go_enter Tryz.func18, Tryz.ntmps18
       go_upto_region 1 with (fail)
       rw [← hW1]
       clear hW1
       try simp only [hn₀]
       go_wp2_with (fail)
       go_ret
       exact ⟨by rw [hq.out]; rfl, B1⟩
     ·have hq : goodS a b c d e = false := by unfold goodS; exact decide_eq_false (fun h => h4 (by omega))
      replace hq := hid hq
      go_enter Tryz.func18, Tryz.ntmps18
      go_upto_region 1 with (fail)
      rw [← hW1]
      clear hW1
      try simp only [hn₀]
      go_wp2_with (fail)
      go_ret
      exact ⟨by rw [hq.out]; rfl, B1⟩
    ·have hq : goodS a b c d e = false := by unfold goodS; exact decide_eq_false (fun h => h3 (by omega))
     replace hq := hid hq
     go_enter Tryz.func18, Tryz.ntmps18
     go_upto_region 1 with (fail)
     rw [← hW1]
     clear hW1
     try simp only [hn₀]
     go_wp2_with (fail)
     go_ret
     exact ⟨by rw [hq.out]; rfl, B1⟩
   ·have hq : goodS a b c d e = false := by unfold goodS; exact decide_eq_false (fun h => h2 (by omega))
    replace hq := hid hq
    go_enter Tryz.func18, Tryz.ntmps18
    go_upto_region 1 with (fail)
    rw [← hW1]
    clear hW1
    try simp only [hn₀]
    go_wp2_with (fail)
    go_ret
    exact ⟨by rw [hq.out]; rfl, B1⟩
  ·have hq : goodS a b c d e = false := by unfold goodS; exact decide_eq_false (fun h => h1 (by omega))
   replace hq := hid hq
   go_enter Tryz.func18, Tryz.ntmps18
   go_upto_region 1 with (fail)
   rw [← hW1]
   clear hW1
   try simp only [hn₀]
   go_wp2_with (fail)
   go_ret
   exact ⟨by rw [hq.out]; rfl, B1⟩
 ·have hq : goodS a b c d e = false := by unfold goodS; exact decide_eq_false (fun h => h0 (by omega))
  replace hq := hid hq
  go_enter Tryz.func18, Tryz.ntmps18
  go_upto_region 1 with (fail)
  rw [← hW1]
  clear hW1
  try simp only [hn₀]
  go_wp2_with (fail)
  go_ret
  exact ⟨by rw [hq.out]; rfl, B1⟩
end Go.Proofs.YtempicociampoaaGreatDoor
namespace Go.Proofs.YtempicociampoaaGreatDoor
open Go.RowKit

theorem wpIn_append_own {F : Fence} {n : Nat} {P : Program} {w : World} {o : Oper} {a : Act} {K : Act → World → Prop} {Q : Exit → Act → World → Prop}
  (s x : Operand) (t : TypeId) (hop : o.op = Op.call { callee := Callee.builtin Builtin.append, args := #[s, x], argTypes := #[t, t] })
  (base : Nat) (e : TypeId) (i : TypeInfo) (z : Value) (size bytes : Nat) (h1 : P.underlying t = some (.slice e)) (h2 : P.info? e = some i) (h3 : i.zero = some z) (h4 : i.size = size) (h5 : i.bytes = bytes) (h6 : z.cells.size = size) (h7 : 0 < size)
  (v : Value) (k : Nat) (xs : List Value) (hs : a.eval s = v) (hown : w.ownsRow base e size v k xs) (ad : Addr) (m c : Nat) (news : List Value) (hx : a.eval x = .slice (some ad) m c) (hn : news.length = m * size)
  (hc : ∀ j u, news[j]? = some u → w.cell? (ad.add j) = some u) (h1c : ∀ u ∈ news, u.oneCell' = true) (b1 : k + m ≤ maxLen) (b2 : (k + m) * bytes ≤ 140737488355328) (b3 : base ≤ w.heap.size)
  (hK : ∀ v' w', w'.ownsRow base e size v' (k + m) (xs ++ news) → w.grownBy w' v.ownBlock → (v' = .slice none 0 0 ↔ v = .slice none 0 0 ∧ m = 0) → K (a.put o.dst v') w') :
  o.wpIn F n P a w K Q := by
 obtain ⟨v', w', hrun, r1, r2, r3⟩ := run_append_own (P := P) w base t o.type e i z size bytes h1 h2 h3 h4 h5 h6 h7 v k xs hown ad m c news hn hc h1c b1 b2 b3
 unfold Oper.wpIn
 refine ⟨?_, ?_⟩
 ·simp [Oper.about, hop, resolve, Target.leads, Sem.run_pure]
 ·rw [Oper.semAt_plain F _ _ (by rw [hop]; intro c hc'; cases hc')]
  simp [execOp, hop, resolve, invoke, builtin, hs, hx, hrun, Result.andThen]
  exact hK v' w' r1 r2 r3

theorem Below_dr {n : Nat} {a w : World} (h : Below n a w) : Below n a w.drew := ⟨h.os, h.tape, h.output, h.size, h.block⟩
/-- cells that were laid new stand behind a call -/
theorem cells_then {Y w1 : World} {cs : List Value} {t : TypeId} (h : Below (Y.alloc (.cells cs.toArray t)).heap.size (Y.alloc (.cells cs.toArray t)) w1) :
  ∀ (j : Nat) (u : Value), cs[j]? = some u → w1.cell? ((⟨Y.heap.size, 0, none⟩ : Addr).add j) = some u := by
 intro j u hj
 have h1 := (h.block Y.heap.size (by simp)).trans (World.alloc_heap_new Y (.cells cs.toArray t))
 have : (⟨Y.heap.size, 0, none⟩ : Addr).add j = ⟨Y.heap.size, j, none⟩ := by simp [Addr.add]; omega
 rw [this]
 simp [World.cell?, h1, hj]
theorem cells_thenD {Y w1 : World} {cs : List Value} {t : TypeId} (h : Below (Y.alloc (.cells cs.toArray t)).drew.heap.size (Y.alloc (.cells cs.toArray t)).drew w1) :
  ∀ (j : Nat) (u : Value), cs[j]? = some u → w1.cell? ((⟨Y.heap.size, 0, none⟩ : Addr).add j) = some u := by
 intro j u hj
 have h1 := (h.block Y.heap.size (by show Y.heap.size < (Y.alloc (.cells cs.toArray t)).heap.size; simp)).trans (World.alloc_heap_new Y (.cells cs.toArray t))
 have : (⟨Y.heap.size, 0, none⟩ : Addr).add j = ⟨Y.heap.size, j, none⟩ := by simp [Addr.add]; omega
 rw [this]
 simp [World.cell?, h1, hj]
theorem KeptX.rng {N : TypeId → Bool} {B : Nat} {W W' : World} (h : KeepsX N B W W') {base : Nat} (hb : B ≤ base) {e : TypeId} (he : N e = true) {size : Nat} {v : Value} {n : Nat} {xs : List Value} (ho : W.ownsRow base e size v n xs) : W'.ownsRow base e size v n xs := by
 obtain ⟨h1, h2⟩ := ho
 refine ⟨h1, ?_⟩
 rcases h2 with h2 | ⟨g, cap, cur, hv, hg, hh, r⟩
 ·exact .inl h2
 ·exact .inr ⟨g, cap, cur, hv, hg, h.same _ _ (by omega) hh (.inr he), r⟩
theorem KeepsM.rng_aux {W W' : World} {base : Nat} {e : TypeId} {size : Nat} {v : Value} {n : Nat} {xs : List Value} (ho : W.ownsRow base e size v n xs) (h : ∀ k o, base ≤ k → W.heap[k]? = some o → v.ownBlock = some k → W'.heap[k]? = some o) : W'.ownsRow base e size v n xs := by
 obtain ⟨h1, h2⟩ := ho
 refine ⟨h1, ?_⟩
 rcases h2 with h2 | ⟨g, cap, cur, hv, hg, hh, r⟩
 ·exact .inl h2
 ·exact .inr ⟨g, cap, cur, hv, hg, h _ _ hg hh (by subst hv; rfl), r⟩
end Go.Proofs.YtempicociampoaaGreatDoor
