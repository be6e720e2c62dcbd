/- More on ranges over a function: things in blocks of their own (by gen_rangex.py). Plain laws of lines: where a way's line ends, how its first pieces stand. A region that defers nothing, drawn in a round of a loop over a function, is walked as outside of every round: operations may be taken first. The walk of the document's Good, of styles (printed by gen_lpa.py). 'append' to an own row as a single operation, inside a fence; cells that were laid ahead of a call. Plain laws of lines: where pieces stand apart, there is a glue. The rows of found ways as they lie in their block, the paragraph beside them. -/
import Derived.Test.YtempicociampoaaGreatDoorRangeX
import Derived.Test.YtempicociampoaaGreatDoorJ8
import Derived.Deep.DeepCutAuto
import Derived.Deep.QuietTactic
import Derived.BigRegionIn
import Derived.Laws.MakeOwn
namespace Go.Proofs.YtempicociampoaaGreatDoor
open Go.RowKit

/-- the statement, outside of every round, whose assignments lay each thing in a block of its own -/
theorem range_boxX {N : TypeId → Bool} {P : Program} {α : Type} {g : Operand} {ps : Array Tmp} {assign body : Code} {Q : Exit → Act → World → Prop} {a : Act} {w : World} {gf : Nat} {lb : Array Value}
    {encs : α → Array Value} {Adm : List α → α → World → Prop} {S Sp : List α → World → Prop} {R : World → Prop}
    (hg : a.eval g = .func (.func gf) #[] lb) (eg : ∀ args w, (callFunc gf args).run P w = .ok (.enter gf args) w)
    (hseq : SeqX P N gf lb encs R Adm S Sp) (hps : ∀ x, (encs x).size = ps.size) (I : List α → World → Prop) (Ix : Code → List α → World → Prop)
    (hI : ∀ s, StX N w.heap.size (I s)) (hIx : ∀ c s, StX N w.heap.size (Ix c s)) (hR : ∀ B, St B R) (hAdm : ∀ pre x, St w.heap.size (Adm pre x)) (hS : ∀ xs, St w.heap.size (S xs)) (hSp : ∀ xs, St w.heap.size (Sp xs))
    (hsz : ∀ pre W, I pre W → w.heap.size ≤ W.heap.size) (h0 : I [] w) (hR0 : R w)
    (mk : Nat → α → Act) (cs : α → Array Value) (tI : TypeId)
    (hassign : ∀ (l : Nat) (x : α) (j : Nat) (W : World) (K : Act → World → Prop), W.heap.size = j → K (mk j x) (W.alloc (.cells (cs x) tI)) →
      assign.wpIn (Fence.wide.inRound l) 0 P (Exit.then K (fun _ _ _ => False)) { tmps := (ps.zip (encs x)).foldl (fun t (p, v) => t.setIfInBounds p v) a.tmps, defers := [] } W)
    (hbody : ∀ (l : Nat) (pre : List α) (x : α) (j : Nat) (W : World), w.heap.size ≤ l → (∃ r, W.heap[l]? = some (.loop r)) → I pre W → R W → Adm pre x W → w.heap.size ≤ j → W.heap[j]? = some (.cells (cs x) tI (0, 0)) →
      body.wpIn (Fence.wide.inRound l) 0 P (rpostX N w.heap.size R I Ix (pre ++ [x]) W) (mk j x) W)
    (hdone : ∀ (D : Nat) (xs : List α) (W : World), w.heap.size ≤ D → S xs W → I xs W → R W → W.heap[D]? = some (.deferred (some [])) → Q .normal { a with defers := { target := .collected D, args := #[] } :: a.defers } W)
    (hstop : ∀ (D : Nat) (c : Code) (pre : List α) (W : World), w.heap.size ≤ D → Sp pre W → Ix c pre W → W.heap[D]? = some (.deferred (some [])) →
      c.wpIn Fence.wide 0 P Q { a with defers := { target := .collected D, args := #[] } :: a.defers } W) :
    (Code.rangeFunc g ps assign body).wpIn Fence.wide 0 P Q a w :=
  range_lawX hg eg hseq hps I Ix hI hIx (hR _) hAdm h0 hR0 (fun x a' W => ∃ j, w.heap.size ≤ j ∧ a' = mk j x ∧ W.heap[j]? = some (.cells (cs x) tI (0, 0)))
    (fun _ _ _ _ hk ⟨j, h1, h2, h3⟩ => ⟨j, h1, h2, hk.same _ _ h3 (.inl rfl)⟩)
    (fun l pre x W K hi hr ha hK => hassign l x _ W K rfl (hK _ _ (KeepsX.alloc _ W _) (hR 0 _ _ (Kept.alloc _ _ _) hr) (hI _ _ _ (Kept.alloc _ _ _).x hi) (hAdm _ _ _ _ (Kept.alloc _ _ _) ha) ⟨_, hsz _ _ hi, rfl, World.alloc_heap_new W _⟩))
    (fun l pre x a' W hl hr2 hi hr ha hax => by obtain ⟨j, hj, rfl, hb⟩ := hax; exact hbody l pre x j W hl hr2 hi hr ha hj hb) hdone hstop hS hSp


theorem KeepsX.grown {N : TypeId → Bool} (B : Nat) {W W' : World} {row : Option Nat} (hg : W.grownBy W' row) (hrow : ∀ j o, row = some j → W.heap[j]? = some o → o.isCells = true ∧ ownT N o = false) : KeepsX N B W W' :=
  ⟨hg.size, fun k o _ hk ho => by
    by_cases e : some k = row
    · obtain ⟨h1, h2⟩ := hrow k o e.symm hk
      rcases ho with ho | ho
      · rw [h1] at ho; cases ho
      · rw [h2] at ho; cases ho
    · exact (hg.block k (Array.getElem?_eq_some_iff.1 hk).1 e).trans hk⟩
theorem owns_type {N : TypeId → Bool} {W : World} {base : Nat} {e : TypeId} {size : Nat} {v : Value} {n : Nat} {xs : List Value} (h : W.ownsRow base e size v n xs) (ht : N e = false) : ∀ j o, v.ownBlock = some j → W.heap[j]? = some o → o.isCells = true ∧ ownT N o = false := by
  intro j o hj ho
  rcases h.2 with ⟨rfl, _⟩ | ⟨g, cap, cur, rfl, hg, hh, _⟩
  · simp [Value.ownBlock] at hj
  · simp [Value.ownBlock] at hj
    subst hj
    rw [hh] at ho; cases ho
    exact ⟨rfl, ht⟩

end Go.Proofs.YtempicociampoaaGreatDoor
namespace Go.Proofs.YtempicociampoaaGreatDoor
open Go.RowKit

section
variable {tw : ByteArray → Int}
theorem moved_all {d : Int} {s a : Sm} (_h3 : 0 ≤ s.z) (e1 : a.y = s.y) (e2 : a.z = s.z) : moved d s a = if 0 ≤ d then (if s.y = 0 then 0 else d) else -(min (-d) s.z) := by
  unfold moved
  rw [e1, e2]
  split
  · split
    · rename_i h; rw [h, spread_nil]
    · rename_i h; exact spread_self h
  · by_cases hz : s.z = 0
    · rw [hz, spread_nil]; omega
    · rw [spread_self hz]
/-- where a line ends -/
theorem Wl.ends {l : List It} (hl : Wl tw l) (hdash : tw dash = 4) (hpw : ∀ x ∈ l, x.kind = 3 → x.w = 4) {f t : Nat} (hf : stp l f) (hft : f < t) (h1 : t ≤ l.length) (h2 : ∀ x, l[t]? = some x → x.kind ≠ 1) (d : Int) :
    endW tw (allPcs d (lineSm l f t) l f t) = (lineSm l f t).w + (if 0 ≤ d then (if (lineSm l f t).y = 0 then 0 else d) else -(min (-d) (lineSm l f t).z)) ∧ allPcs d (lineSm l f t) l f t ≠ [] := by
  have es : lineSm l f t = ⟨(smOf (mid l f t)).w + penW l t, (smOf (mid l f t)).y, (smOf (mid l f t)).z⟩ := if_pos hft
  have hsb := lineSm_bd l f t
  generalize lineSm l f t = s at *
  have sy : (smOf (mid l f t)).y = s.y := by rw [es]
  have sz : (smOf (mid l f t)).z = s.z := by rw [es]
  have sw' : s.w = (smOf (mid l f t)).w + penW l t := by rw [es]
  obtain ⟨x, hx, hxb⟩ := hl.ahead (by omega) h1 h2
  have hw := ((hl.lw hf (t - 1) (by omega) x hx).1 hxb).text (d := d) hsb.2.1.1 hsb.2.2.1
  rw [show t - 1 + 1 = t by omega] at hw
  obtain ⟨w1, w2, -⟩ := hw
  have hm := moved_all (d := d) hsb.2.2.1 sy sz
  unfold cur at w2
  rw [hm] at w2
  unfold allPcs
  by_cases hp : isPen l t = true
  · rw [if_pos hp, endW_snoc, hm, hdash]
    have hw4 : penW l t = 4 := by
      unfold isPen at hp
      unfold penW
      split at hp
      · rename_i y hy
        have hk : y.kind = 3 := by simpa using hp
        simp only [if_pos hk, hpw y (List.mem_of_getElem? hy) hk]; decide
      · cases hp
    exact ⟨by dsimp only; omega, by simp⟩
  · rw [if_neg hp, List.append_nil]
    have hw0 : penW l t = 0 := by
      unfold isPen at hp
      unfold penW
      split
      · rename_i y hy
        rw [hy] at hp
        rw [if_neg (by simpa using hp)]
      · rfl
    exact ⟨by omega, w1⟩
end
end Go.Proofs.YtempicociampoaaGreatDoor
namespace Go.Proofs.YtempicociampoaaGreatDoor
open Go.RowKit
def noDefer (ops : Array Oper) : Bool := ops.toList.all fun o => match o.op with | .defer _ => false | _ => true
theorem oper_out {F : Fence} {n l : Nat} {P : Program} {o : Oper} {a : Act} {w : World} {K : Act → World → Prop} {Q : Exit → Act → World → Prop} (ho : ∀ c, o.op ≠ .defer c) (_hr : F.round = none)
    (h : o.wpIn F n P a w K Q) : o.wpIn (F.inRound l) n P a w K Q := by
  unfold Oper.wpIn at *
  rw [Oper.semAt_eq _ _ _ ho] at h ⊢
  exact h
theorem opIn_out {F : Fence} {n l i : Nat} {P : Program} {ops : Array Oper} {a : Act} {w : World} {K : Act → World → Prop} {Q : Exit → Act → World → Prop} (hn : noDefer ops = true) (hr : F.round = none)
    (h : wpOpIn F n P ops Q i K a w) : wpOpIn (F.inRound l) n P ops Q i K a w := by
  unfold wpOpIn at *
  cases ho : ops[i]? with
  | none => simpa [ho] using h
  | some o =>
    simp only [ho] at h ⊢
    have hd : ∀ c, o.op ≠ .defer c := by
      intro c hc
      have h1 := List.all_eq_true.1 hn o (Array.mem_toList_iff.2 (Array.mem_of_getElem? ho))
      rw [hc] at h1; cases h1
    split
    · rename_i hw; rw [if_pos hw] at h; exact oper_out hd hr h
    · rename_i hw; rw [if_neg hw] at h; exact h
theorem anyIn_out {F : Fence} {n l : Nat} {P : Program} {md : Region.Mode} {ops : Array Oper} {Q : Exit → Act → World → Prop} (hn : noDefer ops = true) (hr : F.round = none) :
    ∀ (fuel : Nat) (listed : Array Bool) (a : Act) (w : World), wpAnyIn F n P md ops Q fuel listed a w → wpAnyIn (F.inRound l) n P md ops Q fuel listed a w := by
  intro fuel
  induction fuel with
  | zero => intro listed a w h; exact h
  | succ fuel ih =>
    intro listed a w h
    exact ⟨h.1, fun i hi => opIn_out hn hr (wpOpIn_mono (fun a w => ih _ _ _) (h.2 i hi))⟩
theorem region_out {F : Fence} {n l id : Nat} {P : Program} {ops : Array Oper} {Q : Exit → Act → World → Prop} {a : Act} {w : World} (hm : P.follows .mixedOrders = true) (hn : noDefer ops = true) (hr : F.round = none)
    (h : wpAnyIn F n P .any ops Q ops.size (Array.replicate ops.size false) a w.drew) : (Code.region id ops true).wpIn (F.inRound l) n P Q a w :=
  wpIn_region_any hm (anyIn_out hn hr _ _ _ _ h)
end Go.Proofs.YtempicociampoaaGreatDoor
namespace Go.Proofs.YtempicociampoaaGreatDoor
open Go.RowKit Go.Shelf Go.Lib

/-- may a style be? -/
def goodS (a b c d e : Int) : Bool := decide (40 ≤ a ∧ a ≤ 400 ∧ 3 ≤ b ∧ b ≤ 20 ∧ 0 ≤ c ∧ c ≤ 10000 ∧ 0 ≤ d ∧ d ≤ 1000 ∧ 0 ≤ e ∧ e ≤ 30)
set_option maxRecDepth 100000 in
set_option maxHeartbeats 4000000 in
theorem rGoodS_any (a b c d e : Int) (w : World) : Calls Tryz.prog 18 #[.agg #[.int .i64 a, .int .i64 b, .int .i64 c, .int .i64 d, .int .i64 e]] w fun r w' => r = .returned (.bool (goodS a b c d e)) ∧ Below w.heap.size w w' := by
  have g1 := World.alloc_heap_new w (.cells #[.int .i64 a, .int .i64 b, .int .i64 c, .int .i64 d, .int .i64 e] 26)
  have B1 : Below w.heap.size w (w.alloc (.cells #[.int .i64 a, .int .i64 b, .int .i64 c, .int .i64 d, .int .i64 e] 26)) := (Below.refl _ w).alloc (Nat.le_refl _) _
  obtain ⟨n₀, hn₀⟩ : ∃ n, w.heap.size = n := ⟨_, rfl⟩
  obtain ⟨W1, hW1⟩ : ∃ W : World, W = w.alloc (.cells #[.int .i64 a, .int .i64 b, .int .i64 c, .int .i64 d, .int .i64 e] 26) := ⟨_, rfl⟩
  rw [← hW1, hn₀] at g1 B1
  rw [hn₀]
  have s0 : W1.cell? ⟨n₀, 0, none⟩ = some (.int .i64 a) := cell_blk (i := 0) g1 rfl
  have s1 : W1.cell? ⟨n₀, 1, none⟩ = some (.int .i64 b) := cell_blk (i := 1) g1 rfl
  have s2 : W1.cell? ⟨n₀, 2, none⟩ = some (.int .i64 c) := cell_blk (i := 2) g1 rfl
  have s3 : W1.cell? ⟨n₀, 3, none⟩ = some (.int .i64 d) := cell_blk (i := 3) g1 rfl
  have s4 : W1.cell? ⟨n₀, 4, none⟩ = some (.int .i64 e) := cell_blk (i := 4) g1 rfl
  clear g1
  by_cases h0 : 40 ≤ a
  · skip
    by_cases h1 : a ≤ 400
    · skip
      by_cases h2 : 3 ≤ b
      · skip
        by_cases h3 : b ≤ 20
        · skip
          by_cases h4 : 0 ≤ c
          · skip
            by_cases h5 : c ≤ 10000
            · skip
              by_cases h6 : 0 ≤ d
              · skip
                by_cases h7 : d ≤ 1000
                · skip
                  by_cases h8 : 0 ≤ e
                  · skip
                    by_cases h9 : e ≤ 30
                    · skip
                      have hq : goodS a b c d e = true := by unfold goodS; exact decide_eq_true ⟨h0, h1, h2, h3, h4, h5, h6, h7, h8, h9⟩
                      replace hq := hid hq
                      go_enter Tryz.func18, Tryz.ntmps18
                      go_upto_region 1 with (fail)
                      rw [← hW1]
                      clear hW1
                      try simp only [hn₀]
                      go_wp2_with (fail)
                      go_ret
                      exact ⟨by rw [hq.out]; rfl, B1⟩
                    · have hq : goodS a b c d e = false := by unfold goodS; exact decide_eq_false (fun h => h9 (by omega))
                      replace hq := hid hq
                      go_enter Tryz.func18, Tryz.ntmps18
                      go_upto_region 1 with (fail)
                      rw [← hW1]
                      clear hW1
                      try simp only [hn₀]
                      go_wp2_with (fail)
                      go_ret
                      exact ⟨by rw [hq.out]; rfl, B1⟩
                  · have hq : goodS a b c d e = false := by unfold goodS; exact decide_eq_false (fun h => h8 (by omega))
                    replace hq := hid hq
                    go_enter Tryz.func18, Tryz.ntmps18
                    go_upto_region 1 with (fail)
                    rw [← hW1]
                    clear hW1
                    try simp only [hn₀]
                    go_wp2_with (fail)
                    go_ret
                    exact ⟨by rw [hq.out]; rfl, B1⟩
                · have hq : goodS a b c d e = false := by unfold goodS; exact decide_eq_false (fun h => h7 (by omega))
                  replace hq := hid hq
                  go_enter Tryz.func18, Tryz.ntmps18
                  go_upto_region 1 with (fail)
                  rw [← hW1]
                  clear hW1
                  try simp only [hn₀]
                  go_wp2_with (fail)
                  go_ret
                  exact ⟨by rw [hq.out]; rfl, B1⟩
              · have hq : goodS a b c d e = false := by unfold goodS; exact decide_eq_false (fun h => h6 (by omega))
                replace hq := hid hq
                go_enter Tryz.func18, Tryz.ntmps18
                go_upto_region 1 with (fail)
                rw [← hW1]
                clear hW1
                try simp only [hn₀]
                go_wp2_with (fail)
                go_ret
                exact ⟨by rw [hq.out]; rfl, B1⟩
            · have hq : goodS a b c d e = false := by unfold goodS; exact decide_eq_false (fun h => h5 (by omega))
              replace hq := hid hq
              go_enter Tryz.func18, Tryz.ntmps18
              go_upto_region 1 with (fail)
              rw [← hW1]
              clear hW1
              try simp only [hn₀]
              go_wp2_with (fail)
              go_ret
              exact ⟨by rw [hq.out]; rfl, B1⟩
          · have hq : goodS a b c d e = false := by unfold goodS; exact decide_eq_false (fun h => h4 (by omega))
            replace hq := hid hq
            go_enter Tryz.func18, Tryz.ntmps18
            go_upto_region 1 with (fail)
            rw [← hW1]
            clear hW1
            try simp only [hn₀]
            go_wp2_with (fail)
            go_ret
            exact ⟨by rw [hq.out]; rfl, B1⟩
        · have hq : goodS a b c d e = false := by unfold goodS; exact decide_eq_false (fun h => h3 (by omega))
          replace hq := hid hq
          go_enter Tryz.func18, Tryz.ntmps18
          go_upto_region 1 with (fail)
          rw [← hW1]
          clear hW1
          try simp only [hn₀]
          go_wp2_with (fail)
          go_ret
          exact ⟨by rw [hq.out]; rfl, B1⟩
      · have hq : goodS a b c d e = false := by unfold goodS; exact decide_eq_false (fun h => h2 (by omega))
        replace hq := hid hq
        go_enter Tryz.func18, Tryz.ntmps18
        go_upto_region 1 with (fail)
        rw [← hW1]
        clear hW1
        try simp only [hn₀]
        go_wp2_with (fail)
        go_ret
        exact ⟨by rw [hq.out]; rfl, B1⟩
    · have hq : goodS a b c d e = false := by unfold goodS; exact decide_eq_false (fun h => h1 (by omega))
      replace hq := hid hq
      go_enter Tryz.func18, Tryz.ntmps18
      go_upto_region 1 with (fail)
      rw [← hW1]
      clear hW1
      try simp only [hn₀]
      go_wp2_with (fail)
      go_ret
      exact ⟨by rw [hq.out]; rfl, B1⟩
  · have hq : goodS a b c d e = false := by unfold goodS; exact decide_eq_false (fun h => h0 (by omega))
    replace hq := hid hq
    go_enter Tryz.func18, Tryz.ntmps18
    go_upto_region 1 with (fail)
    rw [← hW1]
    clear hW1
    try simp only [hn₀]
    go_wp2_with (fail)
    go_ret
    exact ⟨by rw [hq.out]; rfl, B1⟩
end Go.Proofs.YtempicociampoaaGreatDoor
namespace Go.Proofs.YtempicociampoaaGreatDoor
open Go.RowKit

theorem wpIn_append_own {F : Fence} {n : Nat} {P : Program} {w : World} {o : Oper} {a : Act} {K : Act → World → Prop} {Q : Exit → Act → World → Prop}
    (s x : Operand) (t : TypeId) (hop : o.op = Op.call { callee := Callee.builtin Builtin.append, args := #[s, x], argTypes := #[t, t] })
    (base : Nat) (e : TypeId) (i : TypeInfo) (z : Value) (size bytes : Nat) (h1 : P.underlying t = some (.slice e)) (h2 : P.info? e = some i) (h3 : i.zero = some z) (h4 : i.size = size) (h5 : i.bytes = bytes) (h6 : z.cells.size = size) (h7 : 0 < size)
    (v : Value) (k : Nat) (xs : List Value) (hs : a.eval s = v) (hown : w.ownsRow base e size v k xs) (ad : Addr) (m c : Nat) (news : List Value) (hx : a.eval x = .slice (some ad) m c) (hn : news.length = m * size)
    (hc : ∀ j u, news[j]? = some u → w.cell? (ad.add j) = some u) (h1c : ∀ u ∈ news, u.oneCell' = true) (b1 : k + m ≤ maxLen) (b2 : (k + m) * bytes ≤ 140737488355328) (b3 : base ≤ w.heap.size)
    (hK : ∀ v' w', w'.ownsRow base e size v' (k + m) (xs ++ news) → w.grownBy w' v.ownBlock → (v' = .slice none 0 0 ↔ v = .slice none 0 0 ∧ m = 0) → K (a.put o.dst v') w') :
    o.wpIn F n P a w K Q := by
  obtain ⟨v', w', hrun, r1, r2, r3⟩ := run_append_own (P := P) w base t o.type e i z size bytes h1 h2 h3 h4 h5 h6 h7 v k xs hown ad m c news hn hc h1c b1 b2 b3
  unfold Oper.wpIn
  refine ⟨?_, ?_⟩
  · simp [Oper.about, hop, resolve, Target.leads, Sem.run_pure]
  · rw [Oper.semAt_plain F _ _ (by rw [hop]; intro c hc'; cases hc')]
    simp [execOp, hop, resolve, invoke, builtin, hs, hx, hrun, Result.andThen]
    exact hK v' w' r1 r2 r3

theorem Below_dr {n : Nat} {a w : World} (h : Below n a w) : Below n a w.drew := ⟨h.os, h.tape, h.output, h.size, h.block⟩
/-- cells that were laid new stand behind a call -/
theorem cells_then {Y w1 : World} {cs : List Value} {t : TypeId} (h : Below (Y.alloc (.cells cs.toArray t)).heap.size (Y.alloc (.cells cs.toArray t)) w1) :
    ∀ (j : Nat) (u : Value), cs[j]? = some u → w1.cell? ((⟨Y.heap.size, 0, none⟩ : Addr).add j) = some u := by
  intro j u hj
  have h1 := (h.block Y.heap.size (by simp)).trans (World.alloc_heap_new Y (.cells cs.toArray t))
  have : (⟨Y.heap.size, 0, none⟩ : Addr).add j = ⟨Y.heap.size, j, none⟩ := by simp [Addr.add]; omega
  rw [this]
  simp [World.cell?, h1, hj]
theorem cells_thenD {Y w1 : World} {cs : List Value} {t : TypeId} (h : Below (Y.alloc (.cells cs.toArray t)).drew.heap.size (Y.alloc (.cells cs.toArray t)).drew w1) :
    ∀ (j : Nat) (u : Value), cs[j]? = some u → w1.cell? ((⟨Y.heap.size, 0, none⟩ : Addr).add j) = some u := by
  intro j u hj
  have h1 := (h.block Y.heap.size (by show Y.heap.size < (Y.alloc (.cells cs.toArray t)).heap.size; simp)).trans (World.alloc_heap_new Y (.cells cs.toArray t))
  have : (⟨Y.heap.size, 0, none⟩ : Addr).add j = ⟨Y.heap.size, j, none⟩ := by simp [Addr.add]; omega
  rw [this]
  simp [World.cell?, h1, hj]
theorem KeptX.rng {N : TypeId → Bool} {B : Nat} {W W' : World} (h : KeepsX N B W W') {base : Nat} (hb : B ≤ base) {e : TypeId} (he : N e = true) {size : Nat} {v : Value} {n : Nat} {xs : List Value} (ho : W.ownsRow base e size v n xs) : W'.ownsRow base e size v n xs := by
  obtain ⟨h1, h2⟩ := ho
  refine ⟨h1, ?_⟩
  rcases h2 with h2 | ⟨g, cap, cur, hv, hg, hh, r⟩
  · exact .inl h2
  · exact .inr ⟨g, cap, cur, hv, hg, h.same _ _ (by omega) hh (.inr he), r⟩
theorem KeepsM.rng_aux {W W' : World} {base : Nat} {e : TypeId} {size : Nat} {v : Value} {n : Nat} {xs : List Value} (ho : W.ownsRow base e size v n xs) (h : ∀ k o, base ≤ k → W.heap[k]? = some o → v.ownBlock = some k → W'.heap[k]? = some o) : W'.ownsRow base e size v n xs := by
  obtain ⟨h1, h2⟩ := ho
  refine ⟨h1, ?_⟩
  rcases h2 with h2 | ⟨g, cap, cur, hv, hg, hh, r⟩
  · exact .inl h2
  · exact .inr ⟨g, cap, cur, hv, hg, h _ _ hg hh (by subst hv; rfl), r⟩
end Go.Proofs.YtempicociampoaaGreatDoor
namespace Go.Proofs.YtempicociampoaaGreatDoor
open Go.RowKit

section
variable {tw : ByteArray → Int}
end
end Go.Proofs.YtempicociampoaaGreatDoor
namespace Go.Proofs.YtempicociampoaaGreatDoor
open Go.RowKit Go.Shelf Go.Lib

theorem enc4_len (r : Value × Int × Int × Bool) : (enc4 r).length = 4 := rfl
theorem sl_off {α : Type} {W : World} {K : Nat} {enc : α → List Value} {v : Value} {l : List α} {G o : Nat} {vs : List Value} (h : Sl W K enc v l) (hb : ∀ a n m, v = .slice (some a) n m → a.block ≠ G) : Sl (W.setCells G o vs) K enc v l := by
  rcases h with ⟨rfl, rfl⟩ | ⟨a, cap, rfl, h1, h2, h3, h4⟩
  · exact .inl ⟨rfl, rfl⟩
  · refine .inr ⟨a, cap, rfl, h1, h2, h3, fun i x hi j u hj => ?_⟩
    have h9 := h4 i x hi j u hj
    unfold World.cell? at h9 ⊢
    rw [setCells_off _ _ _ _ (hb _ _ _ rfl)]
    exact h9
theorem sl_cell1 {W : World} {b n c : Nat} {l : List Int} (h : Sl W 1 encI (.slice (some ⟨b, 0, none⟩) n c) l) {j : Nat} {x : Int} (hx : l[j]? = some x) : W.cell? ⟨b, j, none⟩ = some (.int .i64 x) := by
  obtain ⟨b', o, c', e, -, -, h9⟩ := h.open (by rintro rfl; simp at hx)
  obtain ⟨h1, -, -⟩ := Value.slice.inj e
  obtain ⟨rfl, rfl, -⟩ := Addr.mk.inj (Option.some.inj h1)
  have := rangeAt_one (h9 j x hx)
  rwa [Nat.mul_one, Nat.zero_add] at this
theorem RowOk.off {W : World} {G : Nat} {r : Value × Int × Int × Bool} {c : Option Wy} {o : Nat} {vs : List Value} (h : RowOk W G r c) : RowOk (W.setCells G o vs) G r c := by
  cases c with
  | none => exact h
  | some w => exact ⟨h.1, sl_off h.2.1 fun a n m e => by have := h.2.2 a n m e; omega, h.2.2⟩
theorem RowOk.shape {W : World} {G : Nat} {r : Value × Int × Int × Bool} {c : Option Wy} (h : RowOk W G r c) : ∃ q n m a b d, r = (.slice q n m, a, b, d) := by
  obtain ⟨r1, a, b, d⟩ := r
  cases c with
  | none => cases h; exact ⟨_, _, _, _, _, _, rfl⟩
  | some w =>
    obtain ⟨q, m, e, -⟩ := h.2.1.shape
    dsimp only at e
    subst e
    exact ⟨_, _, _, _, _, _, rfl⟩
/-- the rows of found ways -/
structure Rows (W : World) (G N : Nat) (rows : List (Value × Int × Int × Bool)) (f : Nat → Option Wy) : Prop where
  own : W.ownsRow G 86 4 (.slice (some ⟨G, 0, none⟩) N N) N (rows.flatMap enc4)
  len : rows.length = N
  row : ∀ j r, rows[j]? = some r → RowOk W G r (f j)
section
variable {W W' : World} {G N : Nat} {rows : List (Value × Int × Int × Bool)} {f f' : Nat → Option Wy}
theorem Rows.below (h : Rows W G N rows f) (hb : Below W.heap.size W W') : Rows W' G N rows f := ⟨(Kept.of_below hb 0).owns h.own, h.len, fun j r hj => (h.row j r hj).kept hb⟩
theorem Rows.congr (h : Rows W G N rows f) (hf : ∀ j, f' j = f j) : Rows W G N rows f' := ⟨h.own, h.len, fun j r hj => by rw [hf]; exact h.row j r hj⟩
theorem Rows.blk (h : Rows W G N rows f) : ∃ cs, W.heap[G]? = some (.cells cs 86 (0, 0)) ∧ cs.size = N * 4 := by
  rcases h.own.2 with ⟨h', _⟩ | ⟨g, cap, cur, h', hb, hg, hnc, hcm, hcs, -⟩
  · simp at h'
  · simp only [Value.slice.injEq, Option.some.injEq, Addr.mk.injEq, and_true, true_and] at h'
    obtain ⟨rfl, rfl⟩ := h'
    exact ⟨cur, hg, hcs⟩
theorem Rows.range (h : Rows W G N rows f) {i : Nat} {r : Value × Int × Int × Bool} (hr : rows[i]? = some r) : W.rangeAt G (i * 4) (enc4 r) := by
  have h1 := h.own
  rw [← h.len] at h1
  have h2 := sl_of_owns (fun x _ => enc4_len x) h1
  obtain ⟨b', o, c', e, -, -, h9⟩ := h2.open (by rintro rfl; simp at hr)
  obtain ⟨h3, -, -⟩ := Value.slice.inj e
  obtain ⟨rfl, rfl, -⟩ := Addr.mk.inj (Option.some.inj h3)
  have := h9 i r hr
  rwa [Nat.zero_add] at this
theorem Rows.set (h : Rows W G N rows f) {i : Nat} (hi : i < N) {x : Wy} {v : Value} (hx : Sl W 1 encI v x.br) (hv : ∀ a n m, v = .slice (some a) n m → G < a.block) (hf : f' i = some x) (hf2 : ∀ j, j ≠ i → f' j = f j) :
    Rows (W.setCells G (i * 4) (enc4 (v, x.tot, x.ov, true))) G N (rows.set i (v, x.tot, x.ov, true)) f' := by
  refine ⟨own_row enc4_len h.own (by rw [h.len]; exact hi) _, by rw [List.length_set, h.len], fun j r hj => ?_⟩
  by_cases e : j = i
  · subst e
    rw [List.getElem?_set_self (by rw [h.len]; exact hi)] at hj
    obtain rfl := Option.some.inj hj
    rw [hf]
    exact ⟨rfl, sl_off hx fun a n m e => by have := hv a n m e; omega, hv⟩
  · rw [List.getElem?_set_ne (by omega)] at hj
    rw [hf2 j e]
    exact (h.row j r hj).off
theorem Rows.get (h : Rows W G N rows f) {i : Nat} (hi : i < N) : ∃ r, rows[i]? = some r ∧ RowOk W G r (f i) := ⟨rows[i]'(by rw [h.len]; exact hi), List.getElem?_eq_getElem _, h.row i _ (List.getElem?_eq_getElem _)⟩
end
def zeroR : Value × Int × Int × Bool := (.slice none 0 0, 0, 0, false)
theorem made4 : ∀ N : Nat, Go.madeCells #[.slice none 0 0, .int .i64 0, .int .i64 0, .bool false] (N * 4) = ((List.replicate N zeroR).flatMap enc4).toArray := by
  intro N
  have h : ∀ N : Nat, (List.range (N * 4)).map (fun i => (#[Value.slice none 0 0, .int .i64 0, .int .i64 0, .bool false] : Array Value)[i % 4]!) = (List.replicate N zeroR).flatMap enc4 := by
    intro N
    induction N with
    | zero => rfl
    | succ N ih =>
      rw [show (N + 1) * 4 = N * 4 + 1 + 1 + 1 + 1 by omega, List.range_succ, List.range_succ, List.range_succ, List.range_succ]
      simp only [List.map_append, ih]
      rw [show N + 1 = N + 1 from rfl, List.replicate_succ', List.flatMap_append]
      simp only [List.append_assoc, List.map_cons, List.map_nil]
      rw [show N * 4 % 4 = 0 by omega, show (N * 4 + 1) % 4 = 1 by omega, show (N * 4 + 1 + 1) % 4 = 2 by omega, show (N * 4 + 1 + 1 + 1) % 4 = 3 by omega]
      rfl
  apply Array.toList_inj.1
  unfold Go.madeCells
  rw [Array.toList_map, Array.toList_range, ← h N]
  rfl
/-- the first rows: a way of nothing to the beginning, none else -/
theorem rows_first {W : World} {G M : Nat} (hg : W.heap[G]? = some (.cells ((List.replicate (M + 2) zeroR).flatMap enc4).toArray 86 (0, 0))) (hM : M + 2 ≤ maxLen) {l : List It} {wd tol : Int} {all : Bool} {pl : List Int} :
    Rows (W.setCell ⟨G, 3, none⟩ (.bool true)) G (M + 2) ((.slice none 0 0, 0, 0, true) :: List.replicate (M + 1) zeroR) (curF l wd tol all pl 0 0) := by
  have hlen : ((List.replicate (M + 2) zeroR).flatMap enc4).length = (M + 2) * 4 := by
    rw [List.length_flatMap]; simp [enc4_len]
  have ho : W.ownsRow G 86 4 (.slice (some ⟨G, 0, none⟩) (M + 2) (M + 2)) (M + 2) ((List.replicate (M + 2) zeroR).flatMap enc4) := by
    refine ⟨by simpa using hlen, .inr ⟨G, M + 2, _, rfl, Nat.le_refl _, hg, Nat.le_refl _, hM, by simpa using hlen, ?_⟩⟩
    rw [← hlen]; exact List.take_length
  refine ⟨?_, by simp, fun j r hj => ?_⟩
  · have h9 := (ho.stored 3 (.bool true)).1
    exact h9
  · rw [curF_zero]
    cases j with
    | zero =>
      obtain rfl := Option.some.inj hj
      exact ⟨rfl, .inl ⟨rfl, rfl⟩, fun a n m e => by cases e⟩
    | succ j =>
      rw [if_neg (by omega)]
      rw [List.getElem?_cons_succ] at hj
      exact List.eq_of_mem_replicate (List.mem_of_getElem? hj)
/-- what stands beside the rows -/
structure Fx (n₀ : Nat) (pb pc : Nat) (PL : List Int) (cp co : Array Value) (w W : World) : Prop where
  below : Below n₀ w W
  par : W.heap[n₀]? = some (.cells cp 82 (0, 0))
  out : W.heap[n₀ + 1]? = some (.cells co 86 (0, 0))
  pl : Sl W 1 encI (.slice (some ⟨pb, 0, none⟩) PL.length pc) PL
theorem Fx.mono {n₀ pb pc : Nat} {PL : List Int} {cp co : Array Value} {w W W' : World} (h : Fx n₀ pb pc PL cp co w W) (hb : Below W.heap.size W W') : Fx n₀ pb pc PL cp co w W' :=
  ⟨h.below.trans (hb.mono (Nat.le_of_lt (Array.getElem?_eq_some_iff.1 h.par).1)), (Kept.of_below hb 0).same _ _ h.par (.inl rfl), (Kept.of_below hb 0).same _ _ h.out (.inl rfl), (Kept.of_below hb 0).sl h.pl⟩
theorem Fx.set {n₀ pb pc G o : Nat} {PL : List Int} {cp co : Array Value} {w W : World} {vs : List Value} (h : Fx n₀ pb pc PL cp co w W) (hG : n₀ + 1 < G) (hp : pb ≠ G) : Fx n₀ pb pc PL cp co w (W.setCells G o vs) :=
  ⟨below_setG (by omega) _ _ _ h.below, (setCells_off _ _ _ _ (by omega)).trans h.par, (setCells_off _ _ _ _ (by omega)).trans h.out, sl_off h.pl fun a n m e => by cases e; exact hp⟩
theorem curF_last (l : List It) (wd tol : Int) (all : Bool) (pl : List Int) {k : Nat} (hk : pl.length = k + 1) : curF l wd tol all pl k 0 k = bestW l wd tol all pl := by
  rw [curF_low (Nat.le_refl _)]
  unfold bestW
  have hl := found_len l wd tol all pl k
  rw [hk, Nat.add_sub_cancel, List.getLast?_eq_getElem?, hl, Nat.add_sub_cancel, List.getD_eq_getElem?_getD]
theorem own_lit1 {W : World} {g base : Nat} {x : Int} (h : W.heap[g]? = some (.cells #[.int .i64 x] 3 (0, 0))) (hb : base ≤ g) : W.ownsRow base 3 1 (.slice (some ⟨g, 0, none⟩) 1 1) 1 [.int .i64 x] :=
  ⟨rfl, .inr ⟨g, 1, _, rfl, hb, h, Nat.le_refl _, by decide, rfl, rfl⟩⟩
end Go.Proofs.YtempicociampoaaGreatDoor
