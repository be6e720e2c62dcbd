/- From a law's contract to its row: the arguments' readings opened; what is asked behind the call. -/
import Derived.Test.YtomgjapjeckokaaRange
import Derived.ProofKit
import Derived.OpenShut
import Derived.Deep.Slices
namespace Go.Proofs.Ytomgjapjeckokaa
open Go.ChangeShapes Go.WideShapes Go.ChangeAt Go.RowKit

section
variable {H : Type} {enc : TypeId × Value → H} {P : Program}

theorem trodAll_below (hl : laidOutB P = true) {W W' : World} (hB : Below W.heap.size W W') : ∀ (ts : List TypeId) (vs : List Value) (ds : List (DataW H)) (ps : List MemPlace),
    (∀ t ∈ ts, P.readableRec t = true ∧ t < P.types.size) → DataW.TrodAll enc P W 0 (fun _ => true) true ts vs ds ps → (∀ x ∈ ps, x.block < W.heap.size) →
    DataW.TrodAll enc P W' 0 (fun b => decide (b < W.heap.size)) true ts vs ds ps
  | [], [], [], _, _, h, _ => h
  | t :: ts, v :: vs, d :: ds, ps, hr, ⟨p, q, h1, h2, e⟩, hlt => by
    subst e
    exact ⟨p, q, Below.trod hl (hr t (by simp)).1 (hr t (by simp)).2 h1 hB (fun x hx => hlt x (by simp [hx])), trodAll_below hl hB ts vs ds q (fun u hu => hr u (by simp [hu])) h2 (fun x hx => hlt x (by simp [hx])), rfl⟩
  | [], _ :: _, _, _, _, h, _ => h.elim
  | [], [], _ :: _, _, _, h, _ => h.elim
  | _ :: _, [], _, _, _, h, _ => h.elim
  | _ :: _, _ :: _, [], _, _, h, _ => h.elim

/-- WHAT A LAW OWES: it has returned true, and what was there is as it was. -/
theorem law_post {fn : Func} {s : ChangeSpec} {W W' : World} {args : Array Value} {ds : List (DataW H)} {before : List MemPlace} {tb : TypeId}
    (hv : s.vars = []) (hW : DataW.Whole enc P fn.params.toList s.vars false W args.toList ds [] before)
    (hfn : s.fn H (ds ++ []) = { results := [.lit (.bool true)], args := ds }) (hrt : fn.resultTypes = #[tb]) (hb : P.underlying tb = some .bool)
    (hl : laidOutB P = true) (hr : ∀ t ∈ fn.params.toList, P.readableRec t = true ∧ t < P.types.size) (hB : Below W.heap.size W W') :
    s.post enc P fn false true false false W args (.bool true) W' := by
  have hW' := hW
  obtain ⟨p, q, hA, hV, rfl, hfz, hnd⟩ := hW
  rw [hv] at hV
  obtain rfl : q = [] := hV
  refine ⟨ds, [], p ++ [], [], p, [], hW', ?_, ?_, ?_, ?_, fun h => by cases h⟩
  · rw [hfn, hrt]
    refine ⟨[], [], shut_bool hb true, rfl, rfl⟩
  · rw [hfn]
    exact trodAll_below hl hB _ _ _ _ hr hA (fun x hx => hW'.lt x (by simpa using hx))
  · rw [hfn, hv]; rfl
  · exact hB.frame _

theorem add_two (a : Addr) (h : a.spot = none) (i j : Nat) : (a.add i).add j = ⟨a.block, a.off + i + j, none⟩ := by
  obtain ⟨b, o, sp⟩ := a
  obtain rfl : sp = none := h
  unfold Addr.add
  by_cases h1 : i = 0 <;> by_cases h2 : j = 0 <;> simp_all [Nat.add_assoc]
theorem add_zero_spot {w : World} {a : Addr} {v : Value} (h : w.cell? ((a.add 0).add 0) = some v) : a.spot = none := by
  have e : (a.add 0).add 0 = a := by unfold Addr.add; simp
  rw [e] at h
  cases hs : a.spot with
  | none => rfl
  | some s =>
    simp only [World.cell?, hs] at h
    split at h
    · simp at h
    · cases h

/-- a slice of arrays of bytes that came in -/
theorem open_u8rows {t e u n : TypeId} {W : World} {base : Nat} {v : Value} {d : DataW H} {p : List MemPlace} (ht : P.underlying t = some (.slice e)) (he : P.underlying e = some (.array n u)) (hu : P.underlying u = some (.int .u8)) (hcu : P.cellsOf u = 1) (hce : P.cellsOf e = n) (hn : 0 < n)
    (hok : Value.okWide P W .any base t v) (h : DataW.Trod enc P W 0 (fun _ => true) true t v d p) :
    ∃ l : List (List Int), (∀ x ∈ l, x.length = n ∧ ∀ y ∈ x, 0 ≤ y ∧ y ≤ 255) ∧ Sl W n u8s v l ∧ l.length * n ≤ maxLen * n := by
  obtain ⟨a0, len, cap, rfl⟩ := okWide_slice ht hok
  obtain ⟨fuel, hf⟩ := h
  rcases Go.Deep.open_slice ht hf with ⟨hcs, hx⟩ | ⟨a, len', cap', m, nf, D, Pl, hcs, -, hl, hm, hmm, hx, hcell⟩
  · simp [Value.cells] at hcs
    obtain ⟨rfl, rfl, rfl⟩ := hcs
    exact ⟨[], by simp, .inl ⟨rfl, rfl⟩, by simp⟩
  · simp [Value.cells] at hcs
    obtain ⟨rfl, rfl, rfl⟩ := hcs
    simp only [if_true] at hmm
    subst hmm
    rw [hce] at hcell
    have one : ∀ i, i < len → ∃ x : List Int, (x.length = n ∧ ∀ y ∈ x, 0 ≤ y ∧ y ≤ 255) ∧ (i = 0 → a.spot = none) ∧ (a.spot = none → W.rangeAt a.block (a.off + i * n) (u8s x)) := by
      intro i hi
      obtain ⟨cs', h1, h2⟩ := hcell i (by omega)
      obtain ⟨-, hlen, hc⟩ := World.cells?_some h1
      obtain ⟨xs, mm, -, -, hl2, hl3, hall⟩ := DataW.trod_array he h2
      rw [hcu] at hall
      have each : ∀ j, j < n → ∃ y : Int, cs'[j]? = some (.int .u8 y) ∧ 0 ≤ y ∧ y ≤ 255 := by
        intro j hj
        have h3 := hall j hj
        rw [List.getElem?_eq_getElem (by rw [hl3]; exact hj)] at h3
        obtain ⟨y, hy1, -, hy2⟩ := DataW.trod_int hu h3
        refine ⟨y, ?_, ?_⟩
        · have : ((cs'.drop (j * 1)).take 1)[0]? = some (.int .u8 y) := by rw [hy1]; rfl
          simpa using this
        · simpa [Lit.wf, show IntKind.u8.min = 0 from rfl, show IntKind.u8.max = 255 from rfl] using hy2
      obtain ⟨f, hf2⟩ := Go.Deep.choose_lt (α := Int) each
      refine ⟨(List.range n).map f, ⟨by simp, fun y hy => ?_⟩, ?_, fun hsp j w hw => ?_⟩
      · obtain ⟨j, hj, rfl⟩ := List.mem_map.1 hy
        exact (hf2 j (by simpa using hj)).2
      · intro hi0
        subst hi0
        have h4 := hc 0 hn
        rw [(hf2 0 hn).1, Nat.zero_mul] at h4
        exact add_zero_spot h4
      · have hj : j < n := by
          have := (List.getElem?_eq_some_iff.1 hw).1
          simpa [u8s] using this
        have h4 := hc j hj
        rw [(hf2 j hj).1, add_two a hsp] at h4
        have : w = .int .u8 (f j) := by
          simp [u8s, hj] at hw
          exact hw.symm
        rw [h4, this]
    obtain ⟨g, hg⟩ := Go.Deep.choose_lt (α := List Int) one
    refine ⟨(List.range len).map g, fun x hx => ?_, ?_, by simp; exact Nat.mul_le_mul_right _ (by omega)⟩
    · obtain ⟨i, hi, rfl⟩ := List.mem_map.1 hx
      exact (hg i (by simpa using hi)).1
    · have hs0 : (List.range len).map g ≠ [] → a.spot = none := fun hne => by
        have h0 : 0 < len := by
          cases len with
          | zero => simp at hne
          | succ k => omega
        exact (hg 0 h0).2.1 rfl
      refine .inr ⟨a, _, by simp, by simpa using hl, hm, hs0, fun i x hi => ?_⟩
      have hlt : i < len := by
        have := (List.getElem?_eq_some_iff.1 hi).1
        simpa using this
      have : x = g i := by
        simp [hlt] at hi
        exact hi.symm
      rw [this]
      exact (hg i hlt).2.2 (hs0 (by cases len with | zero => exact absurd hlt (Nat.not_lt_zero _) | succ k => simp))
/-- a slice of numbers that came in -/
theorem open_nums {t e : TypeId} {kd : IntKind} {W : World} {base : Nat} {v : Value} {d : DataW H} {p : List MemPlace} (ht : P.underlying t = some (.slice e)) (he : P.underlying e = some (.int kd)) (hce : P.cellsOf e = 1)
    (hok : Value.okWide P W .any base t v) (h : DataW.Trod enc P W 0 (fun _ => true) true t v d p) :
    ∃ l : List Int, (∀ y ∈ l, kd.min ≤ y ∧ y ≤ kd.max) ∧ Sl W 1 (fun n => [.int kd n]) v l := by
  obtain ⟨a0, len, cap, rfl⟩ := okWide_slice ht hok
  obtain ⟨fuel, hf⟩ := h
  rcases Go.Deep.open_slice ht hf with ⟨hcs, hx⟩ | ⟨a, len', cap', m, nf, D, Pl, hcs, -, hl, hm, hmm, hx, hcell⟩
  · simp [Value.cells] at hcs
    obtain ⟨rfl, rfl, rfl⟩ := hcs
    exact ⟨[], by simp, .inl ⟨rfl, rfl⟩⟩
  · simp [Value.cells] at hcs
    obtain ⟨rfl, rfl, rfl⟩ := hcs
    simp only [if_true] at hmm
    subst hmm
    rw [hce] at hcell
    have one : ∀ i, i < len → ∃ y : Int, (kd.min ≤ y ∧ y ≤ kd.max) ∧ (i = 0 → a.spot = none) ∧ (a.spot = none → W.cell? ⟨a.block, a.off + i, none⟩ = some (.int kd y)) := by
      intro i hi
      obtain ⟨cs', h1, h2⟩ := hcell i (by omega)
      obtain ⟨-, hlen, hc⟩ := World.cells?_some h1
      obtain ⟨y, hy1, -, hy2⟩ := DataW.trod_int he h2
      subst hy1
      have h4 := hc 0 (by decide)
      refine ⟨y, by simpa [Lit.wf] using hy2, ?_, ?_⟩
      · intro hi0
        subst hi0
        rw [Nat.zero_mul] at h4
        exact add_zero_spot (v := .int kd y) (by simpa using h4)
      · intro hsp
        rw [add_two a hsp] at h4
        simpa using h4
    obtain ⟨g, hg⟩ := Go.Deep.choose_lt (α := Int) one
    refine ⟨(List.range len).map g, fun x hx => ?_, ?_⟩
    · obtain ⟨i, hi, rfl⟩ := List.mem_map.1 hx
      exact (hg i (by simpa using hi)).1
    · have hs0 : (List.range len).map g ≠ [] → a.spot = none := fun hne => by
        have h0 : 0 < len := by
          cases len with
          | zero => simp at hne
          | succ k => omega
        exact (hg 0 h0).2.1 rfl
      refine .inr ⟨a, _, by simp, by simpa using hl, hm, hs0, fun i x hi => ?_⟩
      have hlt : i < len := by
        have := (List.getElem?_eq_some_iff.1 hi).1
        simpa using this
      have : x = g i := by
        simp [hlt] at hi
        exact hi.symm
      rw [this]
      intro j u hj
      match j, hj with
      | 0, hj =>
        simp at hj; subst hj
        have := (hg i hlt).2.2 (hs0 (by cases len with | zero => exact absurd hlt (Nat.not_lt_zero _) | succ k => simp))
        simpa using this
      | j + 1, hj => simp at hj
theorem open_ints {t e : TypeId} {W : World} {base : Nat} {v : Value} {d : DataW H} {p : List MemPlace} (ht : P.underlying t = some (.slice e)) (he : P.underlying e = some (.int .i64)) (hce : P.cellsOf e = 1)
    (hok : Value.okWide P W .any base t v) (h : DataW.Trod enc P W 0 (fun _ => true) true t v d p) :
    ∃ l : List Int, (∀ y ∈ l, -9223372036854775808 ≤ y ∧ y ≤ 9223372036854775807) ∧ Sl W 1 encI v l := open_nums ht he hce hok h
end
end Go.Proofs.Ytomgjapjeckokaa
