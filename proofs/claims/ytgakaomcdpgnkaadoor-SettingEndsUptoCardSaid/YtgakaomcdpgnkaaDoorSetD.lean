/- The walks of measure.within, measure.Line. -/
import Derived.Test.YtgakaomcdpgnkaaDoorSetC
import Derived.Test.YtgakaomcdpgnkaaDoorRange
namespace Go.Proofs.YtgakaomcdpgnkaaDoor
open Go.RowKit Go.Shelf
attribute [local go_sem] Oper.semAt_some

def WiR (ba bf bt : Nat) (v : Value) (n t : Int) (l : List It) (W : World) : Prop :=
  W.cell? ⟨ba, 0, none⟩ = some v ∧ W.cell? ⟨bf, 0, none⟩ = some (.int .i64 n) ∧ W.cell? ⟨bt, 0, none⟩ = some (.int .i64 t) ∧ Sl W 6 encIt v l
theorem WiR.st {ba bf bt : Nat} {v : Value} {n t : Int} {l : List It} (B : Nat) : St B (WiR ba bf bt v n t l) :=
  fun _ _ hk ⟨h1, h2, h3, h4⟩ => ⟨hk.cell h1, hk.cell h2, hk.cell h3, hk.sl h4⟩
def wiEnc (x : It × Nat) : Array Value := #[.int .i64 x.2, .agg (encIt x.1).toArray]
def wiL (l : List It) (f k : Nat) : List (It × Nat) := (mid l f k).zipIdx f
theorem mid_length {l : List It} {f t : Nat} (h : f ≤ t) (ht : t ≤ l.length) : (mid l f t).length = t - f := by unfold mid; simp; omega
theorem wiL_succ {l : List It} {f k : Nat} (h : f ≤ k) (hk : k < l.length) : wiL l f (k + 1) = wiL l f k ++ [(l[k], k)] := by
  unfold wiL
  rw [mid_succ h hk, List.zipIdx_append, mid_length h (by omega)]
  simp; omega
theorem wiL_self (l : List It) (f : Nat) : wiL l f f = [] := by unfold wiL; rw [mid_self]; rfl
theorem wiL_map (l : List It) (f k : Nat) : (wiL l f k).map Prod.fst = mid l f k := by unfold wiL; simp
theorem mid_none {l : List It} {f t : Nat} (h : t ≤ f) : mid l f t = [] := by
  unfold mid; rw [List.drop_eq_nil_iff]; simp; omega

theorem item_cells {w : World} {b o : Nat} {x : It} (h : w.rangeAt b o (encIt x)) : w.cell? ⟨b, o, none⟩ = some (.int .i64 x.kind) ∧ w.cell? ⟨b, o + 1, none⟩ = some (.int .i64 x.w) ∧ w.cell? ⟨b, o + 2, none⟩ = some (.int .i64 x.y) ∧
    w.cell? ⟨b, o + 3, none⟩ = some (.int .i64 x.z) ∧ w.cell? ⟨b, o + 4, none⟩ = some (.int .i64 x.cost) ∧ w.cell? ⟨b, o + 5, none⟩ = some (.string x.text) :=
  ⟨h 0 _ rfl, h 1 _ rfl, h 2 _ rfl, h 3 _ rfl, h 4 _ rfl, h 5 _ rfl⟩

set_option maxRecDepth 100000 in
set_option maxHeartbeats 1000000 in
theorem within1_seq (ba bf bt : Nat) (v : Value) (n : Int) (t : Nat) (l : List It) (hle : l.length ≤ 5000) (hn : w64 n) (ht : t ≤ l.length) :
    Seq Tryd.prog 41 #[.pointer (some ⟨ba, 0, none⟩), .pointer (some ⟨bf, 0, none⟩), .pointer (some ⟨bt, 0, none⟩)] wiEnc (WiR ba bf bt v n t l)
      (fun pre x _ => ∃ k, firstL l n ≤ k ∧ ∃ h : k < l.length, k < t ∧ pre = wiL l (firstL l n) k ∧ x = (l[k], k)) (fun xs _ => xs = wiL l (firstL l n) t) (fun _ _ => True) := by
  intro L J Jx W hJ hJx hY h0 hR0
  obtain ⟨hca, hcf, hct, hsl⟩ := hR0
  have hF := First_any v l n W hsl hle hn
  obtain ⟨p, c, rfl, hla⟩ := hsl.shape
  have hf := fst_le l (from1 n l.length)
  have hfe : firstL l n = fst l (from1 n l.length) := rfl
  rw [← hfe] at hf
  obtain ⟨f, hfd⟩ : ∃ f, firstL l n = f := ⟨_, rfl⟩
  rw [hfd] at hf hF hY ⊢
  clear hfe hfd
  unfold maxLen at hla
  refine calls_of_wpIn Tryd.func41 rfl ?_
  simp only [Tryd.ntmps41, List.size_toArray, List.length_cons, List.length_nil, Nat.reduceAdd, Nat.reduceSub, Array.replicate_succ, Array.replicate_zero, List.push_toArray, List.append_toArray, List.nil_append, List.cons_append]
  gi_wp2_with (fail)
  refine ⟨trivial, rfl, (callsIn_wide.2 hF).mono ?_⟩
  rintro e w' ⟨rfl, rfl⟩
  gi_wp2
  gi_loopw [5] (fun i wr => ∃ k : Nat, (k = f ∨ k ≤ t) ∧ f ≤ k ∧ k ≤ l.length ∧ i = .int .i64 k ∧ J (wiL l f k) wr ∧ WiR ba bf bt (.slice p l.length c) n t l wr) (fun i _ => l.length - (RowKit.intOf i).toNat)
  case atStart => exact ⟨f, .inl rfl, Nat.le_refl _, hf, rfl, by rw [wiL_self]; exact h0, ⟨hca, hcf, hct, hsl⟩⟩
  case round =>
    obtain ⟨k, hk0, hk1, hk2, rfl, hJs, hRs⟩ := hrel
    have hRs' := hRs
    obtain ⟨wca, wcf, wct, wsl⟩ := hRs
    by_cases hlt : k < t
    · have hkl : k < l.length := by omega
      have hadm : ∃ k', f ≤ k' ∧ ∃ h : k' < l.length, k' < t ∧ wiL l f k = wiL l f k' ∧ (l[k], k) = (l[k'], k') := ⟨k, hk1, hkl, hlt, rfl, rfl⟩
      obtain ⟨fn, tmps, assign, body, hy, hR⟩ := hY _ (l[k], k) wr hJs hRs' hadm
      obtain ⟨b, o, cap', he, e1, e2, e3⟩ := wsl.open (by rintro rfl; simp at hkl)
      cases he
      obtain ⟨r0, r1, r2, r3, r4, r5⟩ := item_cells (e3 k l[k] (List.getElem?_eq_getElem hkl))
      have Hk1 := hid (wiL_succ hk1 hkl)
      clear e3 hadm
      dsimp only [wiEnc, encIt] at hy
      generalize l[k] = x at *
      gi_wp2
      refine ⟨rfl, hR.mono ?_⟩
      rintro e W3 (⟨rfl, hJ3, hR3, -⟩ | ⟨rfl, hJx3⟩)
      · have hR3' := hR3
        obtain ⟨x1, x2, x3, x4⟩ := hR3
        gi_wp2
        go_roundw
        case rel => exact ⟨k + 1, .inr (by omega), by omega, by omega, by go_num, by rw [Hk1.out]; exact hJ3, hR3'⟩
        case measure => simp [RowKit.intOf]; omega
      · gi_wp2
        refine bodyPost_ret (results_none rfl _ _ _) rfl ?_
        exact ⟨⟨_, rfl⟩, .inr ⟨_, trivial, hJx3⟩⟩
    · gi_wp2
      go_end0
      refine ⟨⟨_, rfl⟩, .inl ⟨_, rfl, ?_, hRs'⟩⟩
      rcases hk0 with rfl | hk0
      · rw [wiL_self] at hJs
        have : wiL l k t = [] := by unfold wiL; rw [mid_none (by omega)]; rfl
        rw [this]; exact hJs
      · obtain rfl : k = t := by omega
        exact hJs

set_option maxHeartbeats 400000 in
theorem within_any (w : World) (v : Value) (p : Option Addr) (m c : Nat) (n t : Int) (ev : v = .slice p m c) :
    Calls Tryd.prog 29 #[v, .int .i64 n, .int .i64 t] w fun e w' =>
      e = .returned (.func (.func 41) #[] #[.pointer (some ⟨w.heap.size, 0, none⟩), .pointer (some ⟨w.heap.size + 1, 0, none⟩), .pointer (some ⟨w.heap.size + 2, 0, none⟩)]) ∧
      w' = ((w.alloc (.cells #[v] 28)).alloc (.cells #[.int .i64 n] 3)).alloc (.cells #[.int .i64 t] 3) := by
  subst ev
  go_enter Tryd.func29, Tryd.ntmps29
  go_wp2
  go_ret
  exact ⟨rfl, rfl⟩
end Go.Proofs.YtgakaomcdpgnkaaDoor
