/- The walk of strings.FieldsSeq's iterator, of a text of ASCII. Ranges over a function, where the iterator knows that a stopping round keeps its blocks too: for iterators that range over another one (by gen_rangez.py). -/
import Derived.Test.YtempicociampoaaDoorJ5
import Derived.Test.YtempicociampoaaDoorJ0
import Derived.Test.YtempicociampoaaDoorJ1
import Derived.Lib.Strings
namespace Go.Proofs.YtempicociampoaaDoor
open Go.RowKit Go.Shelf
attribute [local go_sem] Oper.semAt_some

/-- the library's table of blanks -/
def Asp (w : World) : Prop := ∀ c, c < 256 → w.cell? ⟨3, c, none⟩ = some (.int .u8 (if c = 9 ∨ c = 10 ∨ c = 11 ∨ c = 12 ∨ c = 13 ∨ c = 32 then 1 else 0))
theorem Asp.kept {B : Nat} {w w' : World} (h : Asp w) (hk : Kept B w w') : Asp w' := fun c hc => hk.cell (h c hc)
theorem Asp.below {w w' : World} (h : Asp w) (hb : Below w.heap.size w w') : Asp w' := h.kept (Kept.of_below hb 0)

/-- the fields that lie whole ahead of place i, and where one has begun -/
def fSt (s : List UInt8) : Nat → List (List UInt8) × Int
  | 0 => ([], -1)
  | i + 1 =>
    let p := fSt s i
    if s.getD i 0 = 32 then (if 0 ≤ p.2 then (p.1 ++ [(s.drop p.2.toNat).take (i - p.2.toNat)], -1) else (p.1, -1)) else (if p.2 < 0 then (p.1, (i : Int)) else (p.1, p.2))
/-- the constant of the patterns -/
def allS : List UInt8 := [46, 114, 101, 49, 32, 46, 117, 110, 49, 32, 49, 116, 105, 111, 110, 32, 50, 115, 115, 50, 32, 49, 110, 97, 32, 49, 110, 101, 32, 110, 49, 116, 32, 116, 50, 116, 32, 49, 109, 97, 32, 108, 49, 108, 32, 50, 105, 110, 103, 32, 49, 100, 101, 32, 101, 114, 49, 32, 49, 108, 121, 46, 32, 49, 99, 97, 32, 49, 99, 111, 32, 111, 49, 114, 32, 49, 112, 97]
def allB : ByteArray := ⟨allS.toArray⟩
theorem allB_size : allB.size = 78 := by decide
theorem f_end : (fSt allS 78).1 ++ [(allS.drop (fSt allS 78).2.toNat).take (78 - (fSt allS 78).2.toNat)] = patTexts ∧ 0 ≤ (fSt allS 78).2 := by decide +kernel
theorem f_bd : ∀ i, i ≤ 78 → -1 ≤ (fSt allS i).2 ∧ (fSt allS i).2 < i ∧ (fSt allS i).1.isPrefixOf patTexts = true := by
  have h : ∀ i, i < 79 → -1 ≤ (fSt allS i).2 ∧ (fSt allS i).2 < i ∧ (fSt allS i).1.isPrefixOf patTexts = true := by decide +kernel
  intro i hi; exact h i (by omega)
theorem f_ascii : ∀ i, i < 78 → (allS.getD i 0).toNat < 128 ∧ ((allS.getD i 0).toNat = 32 ∨ 32 < (allS.getD i 0).toNat) := by decide +kernel

def fEnc (x : List UInt8) : Array Value := #[.string ⟨x.toArray⟩]
/-- what the iterator reads: the text, and the table -/
def FsR (S : ByteArray) (b : Nat) (W : World) : Prop := W.heap[b]? = some (.cells #[.string S] 9 (0, 0)) ∧ Asp W
theorem FsR.st {S : ByteArray} {b : Nat} (B : Nat) : St B (FsR S b) := fun _ _ hk ⟨h1, h2⟩ => ⟨hk.same _ _ h1 (.inl rfl), h2.kept hk⟩

set_option maxRecDepth 100000 in
set_option maxHeartbeats 4000000 in
theorem fields1_seq (S : ByteArray) (hS : S = allB) (b : Nat) (N : TypeId → Bool) :
    SeqX Tryd.prog N 92 #[.pointer (some ⟨b, 0, none⟩)] fEnc (FsR S b) (fun pre x _ => pre ++ [x] <+: patTexts) (fun xs _ => xs = patTexts) (fun _ _ => True) := by
  intro L J Jx W hJ hJx hY h0 hR0
  have hc := cell_blk (i := 0) hR0.1 rfl
  have hz : S.size = 78 := by rw [hS]; exact allB_size
  have hdat : S.data.toList = allS := by rw [hS]; rfl
  have hex : ∀ a k, S.extract a k = ⟨((allS.drop a).take (k - a)).toArray⟩ := fun a k => by rw [Lib.extract_eq, hdat]
  have hch : ∀ k (h : k < S.size), S[k] = allS.getD k 0 := fun k h => by
    have h1 : S.data.toList[k]? = some S[k] := by rw [List.getElem?_eq_getElem (by rw [Array.length_toList]; exact h)]; rfl
    rw [hdat] at h1
    rw [List.getD_eq_getElem?_getD, h1]; rfl
  replace hS := hid hS
  replace hdat := hid hdat
  replace hex := hid hex
  replace hch := hid hch
  refine calls_of_wpIn Tryd.func92 rfl ?_
  simp only [Tryd.ntmps92, List.size_toArray, List.length_cons, List.length_nil, Nat.reduceAdd, Nat.reduceSub, Array.replicate_succ, Array.replicate_zero, List.push_toArray, List.append_toArray, List.nil_append, List.cons_append]
  gi_wp2
  gi_loopw [3, 4] (fun a i wr => ∃ k : Nat, k ≤ 78 ∧ i = .int .i64 k ∧ a = .int .i64 (fSt allS k).2 ∧ J (fSt allS k).1 wr ∧ FsR S b wr) (fun _ i _ => 78 - (RowKit.intOf i).toNat)
  case atStart => exact ⟨0, by omega, rfl, rfl, h0, hR0⟩
  case round =>
    obtain ⟨k, hk, rfl, rfl, hJs, hRs⟩ := hrel
    have hRs' := hRs
    obtain ⟨w1, w2⟩ := hRs
    have x1 := cell_blk (i := 0) w1 rfl
    obtain ⟨g1, g2, g3⟩ := f_bd k hk
    by_cases hlt : k < 78
    · have hks : k < S.size := by omega
      obtain ⟨c1, c2⟩ := f_ascii k hlt
      have hcc := hch.out k hks
      have hst : fSt allS (k + 1) = if allS.getD k 0 = 32 then (if 0 ≤ (fSt allS k).2 then ((fSt allS k).1 ++ [(allS.drop (fSt allS k).2.toNat).take (k - (fSt allS k).2.toNat)], -1) else ((fSt allS k).1, -1)) else (if (fSt allS k).2 < 0 then ((fSt allS k).1, (k : Int)) else ((fSt allS k).1, (fSt allS k).2)) := rfl
      have hpre := (f_bd (k + 1) (by omega)).2.2
      obtain ⟨c, hcd⟩ : ∃ c, S[k]'hks = c := ⟨_, rfl⟩
      rw [hcd] at hcc
      rw [← hcc] at c1 c2 hst
      replace hcc := hid hcc
      have hasp := w2 c.toNat c.toNat_lt
      generalize hF : fSt allS (k + 1) = F at *
      generalize fSt allS k = G at *
      obtain ⟨G1, G2⟩ := G
      dsimp only at *
      replace hF := hid hF
      replace hst := hid hst
      by_cases h32 : c = 32
      · subst h32
        have hst2 := hst.out
        rw [if_pos rfl] at hst2
        have hasp' : wr.cell? ⟨3, 32, none⟩ = some (.int .u8 1) := hasp
        clear hasp
        by_cases hG : 0 ≤ G2
        · rw [if_pos hG] at hst2
          subst hst2
          obtain ⟨g, rfl⟩ : ∃ g : Nat, G2 = g := ⟨G2.toNat, by omega⟩
          have hadm : G1 ++ [(allS.drop g).take (k - g)] <+: patTexts := List.isPrefixOf_iff_prefix.1 hpre
          obtain ⟨fn, tmps, assign, body, hy, hR⟩ := hY G1 ((allS.drop g).take (k - g)) wr hJs hRs' hadm
          dsimp only [fEnc] at hy
          rw [← hex.out g k] at hy
          replace hadm := hid hadm
          clear hpre
          have hF2 := hid (show fSt allS (k + 1) = (G1 ++ [(allS.drop g).take (k - g)], -1) from hF.out)
          clear hF hst
          gi_wp2
          refine ⟨rfl, hR.mono ?_⟩
          rintro e W3 (⟨rfl, hJ3, hR3, -⟩ | ⟨rfl, hJx3⟩)
          · have hR3' := hR3
            obtain ⟨y1, y2⟩ := hR3
            have x3 := cell_blk (i := 0) y1 rfl
            gi_wp2
            refine ⟨⟨k + 1, by omega, by go_num, by rw [hF2.out], by rw [hF2.out]; exact hJ3, hR3'⟩, by simp [RowKit.intOf]; omega⟩
          · gi_wp2
            refine bodyPost_ret (results_none rfl _ _ _) rfl ?_
            exact ⟨⟨_, rfl⟩, .inr ⟨_, trivial, hJx3⟩⟩
        · rw [if_neg hG] at hst2
          subst hst2
          obtain rfl : G2 = -1 := by omega
          gi_wp2
          refine ⟨⟨k + 1, by omega, by go_num, by rw [hF.out], by rw [hF.out]; exact hJs, hRs'⟩, by simp [RowKit.intOf]; omega⟩
      · have hn : c.toNat ≠ 32 := fun h => h32 (by apply UInt8.toNat_inj.1; rw [h]; rfl)
        have hgt : 32 < c.toNat := by omega
        rw [if_neg (by omega)] at hasp
        have hst2 := hst.out
        rw [if_neg h32] at hst2
        have hci : (c.toNat : Int) < 128 := by omega
        by_cases hG : G2 < 0
        · rw [if_pos hG] at hst2
          subst hst2
          gi_wp2
          refine ⟨⟨k + 1, by omega, by go_num, by rw [hF.out], by rw [hF.out]; exact hJs, hRs'⟩, by simp [RowKit.intOf]; omega⟩
        · rw [if_neg hG] at hst2
          subst hst2
          gi_wp2
          refine ⟨⟨k + 1, by omega, by go_num, by rw [hF.out], by rw [hF.out]; exact hJs, hRs'⟩, by simp [RowKit.intOf]; omega⟩
    · obtain rfl : k = 78 := by omega
      obtain ⟨f1, f2⟩ := f_end
      have hpre := List.prefix_refl patTexts
      generalize fSt allS 78 = G at *
      obtain ⟨G1, G2⟩ := G
      dsimp only at *
      obtain ⟨g, rfl⟩ : ∃ g : Nat, G2 = g := ⟨G2.toNat, by omega⟩
      have f1' : G1 ++ [(allS.drop g).take (78 - g)] = patTexts := f1
      obtain ⟨fn, tmps, assign, body, hy, hR⟩ := hY G1 ((allS.drop g).take (78 - g)) wr hJs hRs' (by rw [f1']; exact hpre)
      dsimp only [fEnc] at hy
      rw [← hex.out g 78] at hy
      have hJe := hid f1'
      clear f1 f1' hpre g3
      gi_wp2
      refine ⟨rfl, hR.mono ?_⟩
      rintro e W3 (⟨rfl, hJ3, hR3, -⟩ | ⟨rfl, hJx3⟩)
      · gi_wp2
        go_end0
        exact ⟨⟨_, rfl⟩, .inl ⟨_, rfl, by rw [hJe.out] at hJ3; exact hJ3, hR3⟩⟩
      · gi_wp2
        go_end0
        exact ⟨⟨_, rfl⟩, .inr ⟨_, trivial, hJx3⟩⟩
end Go.Proofs.YtempicociampoaaDoor
namespace Go.Proofs.YtempicociampoaaDoor
open Go.RowKit
/-- the iterator's word: each thing that it hands out comes with 'Adm'; R: what it reads -/
def SeqY {α : Type} (P : Program) (N : TypeId → Bool) (gf : Nat) (lb : Array Value) (encs : α → Array Value) (R : World → Prop) (Adm : List α → α → World → Prop) (S Sp : List α → World → Prop) : Prop :=
  ∀ (l : Nat) (J Jx : List α → World → Prop) (W : World), (∀ s, StX N W.heap.size (J s)) → (∀ s, StX N W.heap.size (Jx s)) →
    (∀ pre x W1, J pre W1 → R W1 → Adm pre x W1 → YieldAt Fence.wide 0 P l (encs x) W1 fun e W' =>
      (e = .returned (.bool true) ∧ J (pre ++ [x]) W' ∧ R W' ∧ KeepsX N W.heap.size W1 W') ∨ (e = .returned (.bool false) ∧ Jx (pre ++ [x]) W' ∧ KeepsX N W.heap.size W1 W')) →
    J [] W → R W →
    Calls P gf (#[.func (.yield l) #[] #[]] ++ lb) W fun e W' => (∃ v, e = .returned v) ∧ ((∃ xs, S xs W' ∧ J xs W' ∧ R W') ∨ (∃ pre, Sp pre W' ∧ Jx pre W'))

theorem SeqX.y {α : Type} {P : Program} {N : TypeId → Bool} {gf : Nat} {lb : Array Value} {encs : α → Array Value} {R : World → Prop} {Adm : List α → α → World → Prop} {S Sp : List α → World → Prop} (h : SeqX P N gf lb encs R Adm S Sp) : SeqY P N gf lb encs R Adm S Sp :=
  fun l J Jx W h1 h2 h3 => h l J Jx W h1 h2 (fun pre x W1 a b c => let ⟨f, t, g1, bo, hy, hr⟩ := h3 pre x W1 a b c; ⟨f, t, g1, bo, hy, hr.mono (fun _ _ hq => hq.imp id (fun ⟨e, j, _⟩ => ⟨e, j⟩))⟩)
section
variable {P : Program} {N : TypeId → Bool} {α : Type} {g : Operand} {ps : Array Tmp} {assign body : Code} {Q : Exit → Act → World → Prop} {a : Act} {w : World} {gf : Nat} {lb : Array Value}
  {encs : α → Array Value} {Adm : List α → α → World → Prop} {S Sp : List α → World → Prop} {R : World → Prop}

/-- one round, its record at l, whatever book-keeping block lies at D -/
theorem round_lawY {F : Fence} (hF : ∀ f, F.fn f) {l : Nat} {rec : LoopState → Option Code → Loop} {fn : FuncId} {B B' : Nat} (hl1 : B ≤ l) (hlB : l < B') {X : World → Prop} (hX : ∀ A C, KeepsX N B A C → X A → X C) (hX2 : ∀ A o, X A → X (A.putObj l o))
    (hrec : ∀ st pe, rec st pe = { state := st, pending := pe, fn := fn, tmps := a.tmps, params := ps, assign := assign, body := body, defers := (rec .ready none).defers })
    (hps : ∀ x, (encs x).size = ps.size) (I : List α → World → Prop) (Ix : Code → List α → World → Prop)
    (hI : ∀ s, StX N B (I s)) (hIx : ∀ c s, StX N B (Ix c s)) (hR : St B R) (hAdm : ∀ pre x, St B (Adm pre x)) (Ax : α → Act → World → Prop) (hAx : ∀ x a', St B (Ax x a'))
    (hassign : ∀ (pre : List α) (x : α) (W : World) (K : Act → World → Prop), I pre W → R W → Adm pre x W → (∀ a' W', KeepsX N B W W' → R W' → I pre W' → Adm pre x W' → Ax x a' W' → K a' W') →
      assign.wpIn (F.inRound l) 0 P (Exit.then K (fun _ _ _ => False)) { tmps := (ps.zip (encs x)).foldl (fun t (p, v) => t.setIfInBounds p v) a.tmps, defers := [] } W)
    (hbody : ∀ (pre : List α) (x : α) (a' : Act) (W : World), (∃ r, W.heap[l]? = some (.loop r)) → I pre W → R W → Adm pre x W → Ax x a' W → body.wpIn (F.inRound l) 0 P (rpostX N B R I Ix (pre ++ [x]) W) a' W)
    (pre : List α) (x : α) (W : World) (hi : I pre W) (hr : R W) (hl : W.heap[l]? = some (.loop (rec .ready none))) (hk : X W) (ha : Adm pre x W) :
    YieldAt F 0 P l (encs x) W fun e W' =>
      (e = .returned (.bool true) ∧ (I (pre ++ [x]) W' ∧ W'.heap[l]? = some (.loop (rec .ready none)) ∧ X W') ∧ R W' ∧ KeepsX N B' W W') ∨
      (e = .returned (.bool false) ∧ (∃ c, Ix c (pre ++ [x]) W' ∧ W'.heap[l]? = some (.loop (rec .done (some c))) ∧ X W') ∧ KeepsX N B' W W') := by
  have hy := run_yield (P := P) (args := encs x) hl (by rw [hrec]; exact hps x)
  rw [hrec] at hy
  refine ⟨fn, _, assign, body, hy, roundIn_of_wpIn (hF _) (hassign pre x W _ hi hr ha ?_)⟩
  intro a' Wa hkf hra hia hada hax
  have hla := hkf.same _ _ hl1 hl (.inl rfl)
  have hka := hX _ _ hkf hk
  have hlt : l < Wa.heap.size := (Array.getElem?_eq_some_iff.1 hla).1
  refine ⟨_, run_beginRound hla (by rw [hrec]), ?_⟩
  have kp : Kept B Wa (Wa.putObj l (.loop { rec .ready none with state := .busy })) := Kept.putObj _ hl1 hla rfl
  have hl2 : (Wa.putObj l (.loop { rec .ready none with state := .busy })).heap[l]? = some (.loop { rec .ready none with state := .busy }) := World.putObj_heap_same hlt
  have hk2 := hX2 _ (.loop { rec .ready none with state := .busy }) hka
  refine wpIn_mono (hbody pre x a' _ ⟨_, hl2⟩ (hI _ _ _ kp.x hia) (hR _ _ kp hra) (hAdm _ _ _ _ kp hada) (hAx _ _ _ _ kp hax)) ?_
  have fin : ∀ (jump : Option Code) (W3 : World), KeepsX N B (Wa.putObj l (.loop { rec .ready none with state := .busy })) W3 →
      (Instr.endRound l jump).run P W3 = .ok (.bool jump.isNone) (W3.putObj l (.loop (rec (if jump.isNone then .ready else .done) jump))) ∧
      Kept B W3 (W3.putObj l (.loop (rec (if jump.isNone then .ready else .done) jump))) ∧
      (W3.putObj l (.loop (rec (if jump.isNone then .ready else .done) jump))).heap[l]? = some (.loop (rec (if jump.isNone then .ready else .done) jump)) ∧
      X (W3.putObj l (.loop (rec (if jump.isNone then .ready else .done) jump))) := fun jump W3 hk3 => by
    have hl3 := hk3.same _ _ hl1 hl2 (.inl rfl)
    have := run_endRound (P := P) jump hl3
    rw [hrec] at this
    rw [hrec (if jump.isNone then .ready else .done) jump]
    refine ⟨this, Kept.putObj _ hl1 hl3 rfl, World.putObj_heap_same (Array.getElem?_eq_some_iff.1 hl3).1, hX2 _ _ (hX _ _ hk3 hk2)⟩
  rintro e a3 W3 hp
  cases e with
  | normal =>
    obtain ⟨hk3, hr3, hi3⟩ := hp
    obtain ⟨h1, h2, h3, h4⟩ := fin none W3 hk3
    exact ⟨_, _, h1, .inl ⟨rfl, ⟨hI _ _ _ h2.x hi3, h3, h4⟩, hR _ _ h2 hr3, (hkf.mono (by omega)).trans ((keepsX_putObj _ _ hlB).trans ((hk3.mono (by omega)).trans (keepsX_putObj _ _ hlB)))⟩⟩
  | ret =>
    obtain ⟨hk3, hi3⟩ := hp
    obtain ⟨h1, h2, h3, h4⟩ := fin (some .ret) W3 hk3
    exact ⟨_, _, h1, .inr ⟨rfl, ⟨.ret, hIx _ _ _ _ h2.x hi3, h3, h4⟩, (hkf.mono (by omega)).trans ((keepsX_putObj _ _ hlB).trans ((hk3.mono (by omega)).trans (keepsX_putObj _ _ hlB)))⟩⟩
  | exit id =>
    obtain ⟨hk3, hi3⟩ := hp
    obtain ⟨h1, h2, h3, h4⟩ := fin (some (.exit id)) W3 hk3
    exact ⟨_, _, h1, .inr ⟨rfl, ⟨.exit id, hIx _ _ _ _ h2.x hi3, h3, h4⟩, (hkf.mono (by omega)).trans ((keepsX_putObj _ _ hlB).trans ((hk3.mono (by omega)).trans (keepsX_putObj _ _ hlB)))⟩⟩
  | goto t =>
    obtain ⟨hk3, hi3⟩ := hp
    obtain ⟨h1, h2, h3, h4⟩ := fin (some (.goto t)) W3 hk3
    exact ⟨_, _, h1, .inr ⟨rfl, ⟨.goto t, hIx _ _ _ _ h2.x hi3, h3, h4⟩, (hkf.mono (by omega)).trans ((keepsX_putObj _ _ hlB).trans ((hk3.mono (by omega)).trans (keepsX_putObj _ _ hlB)))⟩⟩
  | panic ch => exact hp.elim
  | outgrown => exact hp.elim

/-- the statement, outside of every round -/
theorem range_lawY (hg : a.eval g = .func (.func gf) #[] lb) (eg : ∀ args w, (callFunc gf args).run P w = .ok (.enter gf args) w)
    (hseq : SeqY P N gf lb encs R Adm S Sp) (hps : ∀ x, (encs x).size = ps.size) (I : List α → World → Prop) (Ix : Code → List α → World → Prop)
    (hI : ∀ s, StX N w.heap.size (I s)) (hIx : ∀ c s, StX N w.heap.size (Ix c s)) (hR : St w.heap.size R) (hAdm : ∀ pre x, St w.heap.size (Adm pre x)) (h0 : I [] w) (hR0 : R w)
    (Ax : α → Act → World → Prop) (hAx : ∀ x a', St w.heap.size (Ax x a'))
    (hassign : ∀ (l : Nat) (pre : List α) (x : α) (W : World) (K : Act → World → Prop), I pre W → R W → Adm pre x W → (∀ a' W', KeepsX N w.heap.size W W' → R W' → I pre W' → Adm pre x W' → Ax x a' W' → K a' W') →
      assign.wpIn (Fence.wide.inRound l) 0 P (Exit.then K (fun _ _ _ => False)) { tmps := (ps.zip (encs x)).foldl (fun t (p, v) => t.setIfInBounds p v) a.tmps, defers := [] } W)
    (hbody : ∀ (l : Nat) (pre : List α) (x : α) (a' : Act) (W : World), w.heap.size ≤ l → (∃ r, W.heap[l]? = some (.loop r)) → I pre W → R W → Adm pre x W → Ax x a' W →
      body.wpIn (Fence.wide.inRound l) 0 P (rpostX N w.heap.size R I Ix (pre ++ [x]) W) a' W)
    (hdone : ∀ (D : Nat) (xs : List α) (W : World), w.heap.size ≤ D → S xs W → I xs W → R W → W.heap[D]? = some (.deferred (some [])) → Q .normal { a with defers := { target := .collected D, args := #[] } :: a.defers } W)
    (hstop : ∀ (D : Nat) (c : Code) (pre : List α) (W : World), w.heap.size ≤ D → Sp pre W → Ix c pre W → W.heap[D]? = some (.deferred (some [])) →
      c.wpIn Fence.wide 0 P Q { a with defers := { target := .collected D, args := #[] } :: a.defers } W)
    (hS : ∀ xs, St w.heap.size (S xs)) (hSp : ∀ xs, St w.heap.size (Sp xs)) :
    (Code.rangeFunc g ps assign body).wpIn Fence.wide 0 P Q a w := by
  refine wpIn_rangeFunc ?_
  intro fn hfn
  obtain ⟨rec, hrec⟩ : ∃ rec : LoopState → Option Code → Loop, rec = fun st pe => { state := st, pending := pe, fn, tmps := a.tmps, params := ps, assign, body, defers := w.heap.size } := ⟨_, rfl⟩
  obtain ⟨W1, hW1⟩ : ∃ W1, (w.alloc (.deferred (some []))).alloc (.loop (rec .ready none)) = W1 := ⟨_, rfl⟩
  have hL1 : W1.heap[w.heap.size + 1]? = some (.loop (rec .ready none)) := by
    rw [← hW1]; have := World.alloc_heap_new (w.alloc (.deferred (some []))) (.loop (rec .ready none)); rwa [World.size_alloc] at this
  have hK1 : W1.heap[w.heap.size]? = some (.deferred (some [])) := by
    rw [← hW1]; exact (Below.heap_alloc _ _ _ (by simp)).trans (World.alloc_heap_new w _)
  have k1 : Kept w.heap.size w W1 := by rw [← hW1]; exact (Kept.alloc _ _ _).trans (Kept.alloc _ _ _)
  refine ⟨w.heap.size + 1, [{ target := .collected w.heap.size, args := #[] }], W1, { target := .fn (.func gf) lb, args := #[.func (.yield (w.heap.size + 1)) #[] #[]] }, W1, gf,
    #[.func (.yield (w.heap.size + 1)) #[] #[]] ++ lb, W1, ?_, ?_, ?_, ?_, (fun h => (by cases h)), ?_⟩
  · rw [← hW1, hrec]; exact run_enterLoop_outer _ _ _ _ _
  · simp only [resolve, hg]
    simp [go_sem]
  · intro f' hf'; simp [Target.leads] at hf'; subst hf'; exact trivial
  · simp [invoke, go_sem, eg]
  · refine callsIn_wide.2 ((hseq (w.heap.size + 1)
      (fun pre W => I pre W ∧ W.heap[w.heap.size + 1]? = some (.loop (rec .ready none)) ∧ W.heap[w.heap.size]? = some (.deferred (some [])))
      (fun pre W => ∃ c, Ix c pre W ∧ W.heap[w.heap.size + 1]? = some (.loop (rec .done (some c))) ∧ W.heap[w.heap.size]? = some (.deferred (some [])))
      W1 ?_ ?_ ?_ ⟨hI _ _ _ k1.x h0, hL1, hK1⟩ (hR _ _ k1 hR0)).mono ?_)
    · rintro s A C hk ⟨h1, h2, h3⟩
      have hs : w.heap.size + 1 < W1.heap.size := (Array.getElem?_eq_some_iff.1 hL1).1
      exact ⟨hI _ _ _ (hk.mono (by omega)) h1, hk.same _ _ h2 (.inr hs), hk.same _ _ h3 (.inr (by omega))⟩
    · rintro s A C hk ⟨c, h1, h2, h3⟩
      have hs : w.heap.size + 1 < W1.heap.size := (Array.getElem?_eq_some_iff.1 hL1).1
      exact ⟨c, hIx _ _ _ _ (hk.mono (by omega)) h1, hk.same _ _ h2 (.inr hs), hk.same _ _ h3 (.inr (by omega))⟩
    · rintro pre x W ⟨hi, hl, hk⟩ hr ha
      have hs1 : w.heap.size + 1 < W1.heap.size := (Array.getElem?_eq_some_iff.1 hL1).1
      exact round_lawY (fun _ => trivial) (l := w.heap.size + 1) (B := w.heap.size) (by omega) hs1 (X := fun W => W.heap[w.heap.size]? = some (.deferred (some []))) (fun A C hk hx => hk.same _ _ (Nat.le_refl _) hx (.inl rfl)) (fun A o hx => (World.putObj_heap_other (by omega)).trans hx)
        (fun st pe => by rw [hrec]) hps I Ix hI hIx hR hAdm Ax hAx (hassign _) (fun pre x a' W => hbody _ pre x a' W (by omega)) pre x W hi hr hl hk ha
    · rintro e W2 ⟨⟨v, rfl⟩, (⟨xs, hS2, ⟨hi, hl, hk⟩, hr⟩ | ⟨pre, hSp2, c, hi, hl, hk⟩)⟩
      · have kp := Kept.putObj (B := w.heap.size) (.loop { rec .ready none with state := .exhausted }) (by omega) hl rfl
        exact ⟨none, _, by have := run_endLoop (P := P) hl (by rw [hrec]; simp); rw [hrec] at this ⊢; exact this, hdone _ xs _ (Nat.le_refl _) (hS _ _ _ kp hS2) (hI _ _ _ kp.x hi) (hR _ _ kp hr) ((World.putObj_heap_other (by omega)).trans hk)⟩
      · have kp := Kept.putObj (B := w.heap.size) (.loop { rec .done (some c) with state := .exhausted }) (by omega) hl rfl
        exact ⟨some c, _, by have := run_endLoop (P := P) hl (by rw [hrec]; simp); rw [hrec] at this ⊢; exact this, hstop _ c pre _ (Nat.le_refl _) (hSp _ _ _ kp hSp2) (hIx _ _ _ _ kp.x hi) ((World.putObj_heap_other (by omega)).trans hk)⟩

end

section
variable {P : Program} {N : TypeId → Bool} {α : Type} {g : Operand} {ps : Array Tmp} {assign body : Code} {Q : Exit → Act → World → Prop} {a : Act} {w : World} {gf : Nat} {lb : Array Value}
  {encs : α → Array Value} {Adm : List α → α → World → Prop} {S Sp : List α → World → Prop} {R : World → Prop}

end


/-- the statement, outside of every round, whose assignments lay each thing in a block of its own -/
theorem range_boxY {N : TypeId → Bool} {P : Program} {α : Type} {g : Operand} {ps : Array Tmp} {assign body : Code} {Q : Exit → Act → World → Prop} {a : Act} {w : World} {gf : Nat} {lb : Array Value}
    {encs : α → Array Value} {Adm : List α → α → World → Prop} {S Sp : List α → World → Prop} {R : World → Prop}
    (hg : a.eval g = .func (.func gf) #[] lb) (eg : ∀ args w, (callFunc gf args).run P w = .ok (.enter gf args) w)
    (hseq : SeqY P N gf lb encs R Adm S Sp) (hps : ∀ x, (encs x).size = ps.size) (I : List α → World → Prop) (Ix : Code → List α → World → Prop)
    (hI : ∀ s, StX N w.heap.size (I s)) (hIx : ∀ c s, StX N w.heap.size (Ix c s)) (hR : ∀ B, St B R) (hAdm : ∀ pre x, St w.heap.size (Adm pre x)) (hS : ∀ xs, St w.heap.size (S xs)) (hSp : ∀ xs, St w.heap.size (Sp xs))
    (hsz : ∀ pre W, I pre W → w.heap.size ≤ W.heap.size) (h0 : I [] w) (hR0 : R w)
    (mk : Nat → α → Act) (cs : α → Array Value) (tI : TypeId)
    (hassign : ∀ (l : Nat) (x : α) (j : Nat) (W : World) (K : Act → World → Prop), W.heap.size = j → K (mk j x) (W.alloc (.cells (cs x) tI)) →
      assign.wpIn (Fence.wide.inRound l) 0 P (Exit.then K (fun _ _ _ => False)) { tmps := (ps.zip (encs x)).foldl (fun t (p, v) => t.setIfInBounds p v) a.tmps, defers := [] } W)
    (hbody : ∀ (l : Nat) (pre : List α) (x : α) (j : Nat) (W : World), w.heap.size ≤ l → (∃ r, W.heap[l]? = some (.loop r)) → I pre W → R W → Adm pre x W → w.heap.size ≤ j → W.heap[j]? = some (.cells (cs x) tI (0, 0)) →
      body.wpIn (Fence.wide.inRound l) 0 P (rpostX N w.heap.size R I Ix (pre ++ [x]) W) (mk j x) W)
    (hdone : ∀ (D : Nat) (xs : List α) (W : World), w.heap.size ≤ D → S xs W → I xs W → R W → W.heap[D]? = some (.deferred (some [])) → Q .normal { a with defers := { target := .collected D, args := #[] } :: a.defers } W)
    (hstop : ∀ (D : Nat) (c : Code) (pre : List α) (W : World), w.heap.size ≤ D → Sp pre W → Ix c pre W → W.heap[D]? = some (.deferred (some [])) →
      c.wpIn Fence.wide 0 P Q { a with defers := { target := .collected D, args := #[] } :: a.defers } W) :
    (Code.rangeFunc g ps assign body).wpIn Fence.wide 0 P Q a w :=
  range_lawY hg eg hseq hps I Ix hI hIx (hR _) hAdm h0 hR0 (fun x a' W => ∃ j, w.heap.size ≤ j ∧ a' = mk j x ∧ W.heap[j]? = some (.cells (cs x) tI (0, 0)))
    (fun _ _ _ _ hk ⟨j, h1, h2, h3⟩ => ⟨j, h1, h2, hk.same _ _ h3 (.inl rfl)⟩)
    (fun l pre x W K hi hr ha hK => hassign l x _ W K rfl (hK _ _ (KeepsX.alloc _ W _) (hR 0 _ _ (Kept.alloc _ _ _) hr) (hI _ _ _ (Kept.alloc _ _ _).x hi) (hAdm _ _ _ _ (Kept.alloc _ _ _) ha) ⟨_, hsz _ _ hi, rfl, World.alloc_heap_new W _⟩))
    (fun l pre x a' W hl hr2 hi hr ha hax => by obtain ⟨j, hj, rfl, hb⟩ := hax; exact hbody l pre x j W hl hr2 hi hr ha hj hb) hdone hstop hS hSp



end Go.Proofs.YtempicociampoaaDoor
