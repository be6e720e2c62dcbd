/- The walks of keep's comparisons. Plain laws of texts and their signs; Signs at every text (for seats that hold no writer of texts). Widths: the plain law, and the walks of metric.Sign, the reference's in and Sign. The walks of the reference's in and Sign, of sum and the Texts, and of layer 10's wakes. The walks of setting.Wide, keep.Pieces. Plain laws of a word's numbers: patterns, and where they lie. -/
import Derived.Test.YtempicociampoaaDoorLib
import Derived.Test.YtempicociampoaaDoorJ4
import Derived.Test.YtempicociampoaaDoorUtfE
import Derived.Test.YtempicociampoaaDoorSetJ
import Derived.Test.YtempicociampoaaDoorSetE
namespace Go.Proofs.YtempicociampoaaDoor
open Go.RowKit

end Go.Proofs.YtempicociampoaaDoor
namespace Go.Proofs.YtempicociampoaaDoor
open Go.RowKit Go.Shelf

theorem Tabs.below {w w' : World} (h : Tabs w) (hb : Below w.heap.size w w') : Tabs w' := Utf8Tabs_below h hb
theorem Tabs.drewN {w : World} (h : Tabs w) (n : Nat) : Tabs (w.drewN n) := h.below ((Below.refl _ w).drewN n)
theorem Tabs.alloc {w : World} (h : Tabs w) (o : Obj) : Tabs (w.alloc o) := h.below ((Below.refl _ w).alloc (Nat.le_refl _) o)

theorem Signs_any (s : ByteArray) (w : World) (hs : s.size ≤ 2000000) (hT : Tabs w) :
    Calls Tryd.prog 13 #[.string s] w fun e w' => ∃ v, e = .returned v ∧ Sl w' 1 encI v (sgn s.data.toList) ∧ Below w.heap.size w w' := by
  cases hv : Lib.validD s.data.toList with
  | false =>
    refine (Signs_no s w (by omega) hT hv).mono fun e w' ⟨he, hB⟩ => ⟨_, he, ?_, hB⟩
    rw [sgn_no hv]; exact .inl ⟨rfl, rfl⟩
  | true =>
    obtain ⟨h1, h2⟩ := sgn_yes hv
    exact Signs_yes s w hs hT _ h1 h2

theorem sgn_len (s : ByteArray) : (sgn s.data.toList).length ≤ s.size := by
  cases hv : Lib.validD s.data.toList with
  | false => rw [sgn_no hv]; exact Nat.zero_le _
  | true =>
    obtain ⟨h1, h2⟩ := sgn_yes hv
    have := len_txt h1
    rw [← h2] at this
    exact this
theorem sgn_rng (t : List UInt8) : ∀ x ∈ sgn t, -9223372036854775808 ≤ x ∧ x ≤ 9223372036854775807 := by
  cases hv : Lib.validD t with
  | false => rw [sgn_no hv]; intro x hx; cases hx
  | true =>
    intro x hx
    obtain ⟨a, b, -⟩ := (sgn_yes hv).1 x hx
    omega
end Go.Proofs.YtempicociampoaaDoor
namespace Go.Proofs.YtempicociampoaaDoor
open Go.RowKit Go.Shelf

def memb (l : List UInt8) (v : Int) : Bool := l.any fun b => (b.toNat : Int) == v
def narrowL : List UInt8 := [105, 106, 108, 46, 44, 59, 58, 33, 124, 39]
def slimL : List UInt8 := [102, 116, 114, 40, 41, 91, 93, 45, 34]
def wideL : List UInt8 := [109, 119, 77, 87, 64]
/-- how wide a sign is -/
def width (v : Int) : Int := if memb narrowL v then 3 else if memb slimL v then 4 else if memb wideL v then 9 else if 65 ≤ v ∧ v ≤ 90 then 7 else if 33 ≤ v ∧ v ≤ 126 then 6 else 10

theorem memb_range {l : List UInt8} (hl : ∀ b ∈ l, 33 ≤ b.toNat ∧ b.toNat ≤ 126) {v : Int} (h : v < 33 ∨ 126 < v) : memb l v = false := by
  unfold memb
  rw [List.any_eq_false]
  intro b hb
  have := hl b hb
  simp; omega
theorem width_out {v : Int} (h : v < 33 ∨ 126 < v) : width v = 10 := by
  unfold width
  rw [memb_range (by decide) h, memb_range (by decide) h, memb_range (by decide) h]
  simp; omega
theorem width_bd (v : Int) : 3 ≤ width v ∧ width v ≤ 10 := by
  unfold width
  repeat (first | split | omega)
theorem ib (l : List UInt8) (v : Int) (h0 : 0 ≤ v) (h1 : v ≤ 255) : -1 ≤ Lib.indexByte l v.toNat.toUInt8 ∧ (0 ≤ Lib.indexByte l v.toNat.toUInt8 ↔ memb l v = true) := by
  induction l with
  | nil => exact ⟨by simp [Lib.indexByte], by simp [Lib.indexByte, memb]⟩
  | cons b l ih =>
    obtain ⟨i1, i2⟩ := ih
    have hb := b8 h0 h1
    have he : (b == v.toNat.toUInt8) = ((b.toNat : Int) == v) := by
      rw [Bool.eq_iff_iff]
      simp only [beq_iff_eq]
      constructor
      · intro h; rw [h, hb]; omega
      · intro h; apply UInt8.toNat_inj.1; rw [hb]; omega
    unfold Lib.indexByte
    rw [he]
    show _ ∧ (_ ↔ (((b.toNat : Int) == v) || memb l v) = true)
    cases hq : ((b.toNat : Int) == v) with
    | true => simp
    | false =>
      simp only [Bool.false_or]
      rw [← i2]
      generalize Lib.indexByte l v.toNat.toUInt8 = q at *
      by_cases hm : q = -1
      · simp [hm]
      · have : (q == -1) = false := by simpa using hm
        rw [this]
        simp; omega

set_option maxRecDepth 100000 in
set_option maxHeartbeats 2000000 in
theorem Sign_any (v : Int) (w : World) (z1 : -9223372036854775808 ≤ v) (z2 : v ≤ 9223372036854775807) :
    Calls Tryd.prog 14 #[.int .i64 v] w fun e w' => e = .returned (.int .i64 (width v)) ∧ w' = w := by
  by_cases ho : v < 33 ∨ 126 < v
  · have hw := hid (width_out ho)
    have hc : v < 33 ∨ 33 ≤ v ∧ 126 < v := by omega
    clear ho
    rcases hc with x1 | ⟨x1, x2⟩
    all_goals
      go_enter Tryd.func14, Tryd.ntmps14
      go_wp2
      go_ret
      exact ⟨by rw [Hid.out hw]; rfl, rfl⟩
  · have x1 : 33 ≤ v := by omega
    have x2 : v ≤ 126 := by omega
    clear ho
    obtain ⟨a1, a2⟩ := ib narrowL v (by omega) (by omega)
    obtain ⟨b1, b2⟩ := ib slimL v (by omega) (by omega)
    obtain ⟨c1, c2⟩ := ib wideL v (by omega) (by omega)
    have cN := Tryd.strings_IndexByte ⟨#[105, 106, 108, 46, 44, 59, 58, 33, 124, 39]⟩ v w
    have cS := Tryd.strings_IndexByte ⟨#[102, 116, 114, 40, 41, 91, 93, 45, 34]⟩ v w
    have cM := Tryd.strings_IndexByte ⟨#[109, 119, 77, 87, 64]⟩ v w
    change Calls _ _ _ _ (fun e w' => e = .returned (.int .i64 (Lib.indexByte narrowL v.toNat.toUInt8)) ∧ w' = w) at cN
    change Calls _ _ _ _ (fun e w' => e = .returned (.int .i64 (Lib.indexByte slimL v.toNat.toUInt8)) ∧ w' = w) at cS
    change Calls _ _ _ _ (fun e w' => e = .returned (.int .i64 (Lib.indexByte wideL v.toNat.toUInt8)) ∧ w' = w) at cM
    have hwd : width v = if memb narrowL v then 3 else if memb slimL v then 4 else if memb wideL v then 9 else if 65 ≤ v ∧ v ≤ 90 then 7 else 6 := by
      unfold width; rw [if_pos (show 33 ≤ v ∧ v ≤ 126 from ⟨x1, x2⟩)]
    generalize Lib.indexByte narrowL v.toNat.toUInt8 = i1 at *
    generalize Lib.indexByte slimL v.toNat.toUInt8 = i2 at *
    generalize Lib.indexByte wideL v.toNat.toUInt8 = i3 at *
    have hcs : (0 ≤ i1 ∧ width v = 3) ∨ (i1 < 0 ∧ 0 ≤ i2 ∧ width v = 4) ∨ (i1 < 0 ∧ i2 < 0 ∧ 0 ≤ i3 ∧ width v = 9) ∨ (i1 < 0 ∧ i2 < 0 ∧ i3 < 0 ∧ 65 ≤ v ∧ v ≤ 90 ∧ width v = 7) ∨ (i1 < 0 ∧ i2 < 0 ∧ i3 < 0 ∧ v < 65 ∧ width v = 6) ∨ (i1 < 0 ∧ i2 < 0 ∧ i3 < 0 ∧ 65 ≤ v ∧ 90 < v ∧ width v = 6) := by
      by_cases p1 : 0 ≤ i1
      · exact .inl ⟨p1, by rw [hwd, if_pos (a2.1 p1)]⟩
      rw [if_neg (fun h => p1 (a2.2 h))] at hwd
      by_cases p2 : 0 ≤ i2
      · exact .inr (.inl ⟨by omega, p2, by rw [hwd, if_pos (b2.1 p2)]⟩)
      rw [if_neg (fun h => p2 (b2.2 h))] at hwd
      by_cases p3 : 0 ≤ i3
      · exact .inr (.inr (.inl ⟨by omega, by omega, p3, by rw [hwd, if_pos (c2.1 p3)]⟩))
      rw [if_neg (fun h => p3 (c2.2 h))] at hwd
      by_cases p4 : 65 ≤ v ∧ v ≤ 90
      · rw [if_pos p4] at hwd
        exact .inr (.inr (.inr (.inl ⟨by omega, by omega, by omega, p4.1, p4.2, hwd⟩)))
      · rw [if_neg p4] at hwd
        by_cases p5 : v < 65
        · exact .inr (.inr (.inr (.inr (.inl ⟨by omega, by omega, by omega, p5, hwd⟩))))
        · exact .inr (.inr (.inr (.inr (.inr ⟨by omega, by omega, by omega, by omega, by omega, hwd⟩))))
    clear a1 a2 b1 b2 c1 c2 hwd
    rcases hcs with ⟨p1, hw⟩ | ⟨p1, p2, hw⟩ | ⟨p1, p2, p3, hw⟩ | ⟨p1, p2, p3, p4, p5, hw⟩ | ⟨p1, p2, p3, p4, hw⟩ | ⟨p1, p2, p3, p4, p5, hw⟩
    all_goals
      replace hw := hid hw
      go_enter Tryd.func14, Tryd.ntmps14
      go_wp2_with (fail)
      refine cN.mono ?_
      rintro e w' ⟨rfl, rfl⟩
      try
        go_wp2_with (fail)
        refine cS.mono ?_
        rintro e w' ⟨rfl, rfl⟩
      try
        go_wp2_with (fail)
        refine cM.mono ?_
        rintro e w' ⟨rfl, rfl⟩
      go_wp2
      go_ret
      exact ⟨by rw [Hid.out hw]; rfl, rfl⟩
end Go.Proofs.YtempicociampoaaDoor
namespace Go.Proofs.YtempicociampoaaDoor
open Go.RowKit Go.Shelf

/-- how wide signs are together -/
def sumw (l : List Int) : Int := (l.map width).sum
theorem sumw_append (a b : List Int) : sumw (a ++ b) = sumw a + sumw b := by simp [sumw]
theorem sumw_bd : ∀ l : List Int, 0 ≤ sumw l ∧ sumw l ≤ 10 * l.length
  | [] => ⟨by decide, by decide⟩
  | x :: l => by
    have h1 := sumw_bd l
    have h2 := width_bd x
    have : sumw (x :: l) = width x + sumw l := by simp [sumw]
    rw [this, List.length_cons]; omega
theorem sumw_take {l : List Int} {k : Nat} (h : k < l.length) : sumw (l.take (k + 1)) = sumw (l.take k) + width l[k] := by
  rw [List.take_succ_eq_append_getElem h, sumw_append]; simp [sumw]

set_option maxRecDepth 100000 in
set_option maxHeartbeats 2000000 in
theorem Sum_any (v : Value) (l : List Int) (w : World) (hl : l.length ≤ 2000000) (hsl : Sl w 1 encI v l) (hr : ∀ x ∈ l, -9223372036854775808 ≤ x ∧ x ≤ 9223372036854775807) :
    Calls Tryd.prog 12 #[v, .func (.func 14) #[] #[]] w fun e w' => e = .returned (.int .i64 (sumw l)) ∧ w' = w := by
  obtain ⟨p, cap, rfl, hmx⟩ := hsl.shape
  go_enter Tryd.func12, Tryd.ntmps12
  go_wp2
  go_loopw [5, 7, 10] (fun a _ i wr => ∃ k : Nat, k ≤ l.length ∧ a = .int .i64 (sumw (l.take k)) ∧ i = .int .i64 k ∧ wr = w) (fun _ _ i _ => l.length - (RowKit.intOf i).toNat)
  case atStart => exact ⟨0, Nat.zero_le _, rfl, rfl, rfl⟩
  case round =>
    obtain ⟨k, hk, rfl, rfl, rfl⟩ := hrel
    have hbd := sumw_bd (l.take k)
    by_cases hkl : k < l.length
    · have hne : l ≠ [] := by intro h; rw [h] at hkl; simp at hkl
      obtain ⟨b, o, cap', he, h1, h2, h3⟩ := hsl.open hne
      cases he
      have hc := rangeAt_one (h3 k l[k] (List.getElem?_eq_getElem hkl))
      simp only [Nat.mul_one] at hc
      have hnx := sumw_take hkl
      have hxr := hr l[k] (List.getElem_mem hkl)
      have hwb := width_bd l[k]
      have hcall := Sign_any l[k] wr hxr.1 hxr.2
      rw [List.length_take] at hbd
      generalize l[k] = x at *
      obtain ⟨S, hS⟩ : ∃ S, sumw (l.take k) = S := ⟨_, rfl⟩
      rw [hS] at hnx hbd ⊢
      have Hnx := hid hnx
      obtain ⟨X, hX⟩ : ∃ X, width x = X := ⟨_, rfl⟩
      rw [hX] at hcall hwb
      have HX := hid hX
      clear hnx hS hX h3 hr hsl hxr
      go_wp2_with (fail)
      refine hcall.mono ?_
      rintro e w' ⟨rfl, rfl⟩
      go_wp2
      refine ⟨⟨k + 1, by omega, ?_, rfl, trivial⟩, ?_⟩
      · rw [Hid.out Hnx, Hid.out HX]
      · simp only [RowKit.intOf]; omega
    · obtain rfl : k = l.length := by omega
      rw [List.take_length] at *
      clear hr hsl
      go_wp2
      go_ret
      exact ⟨rfl, rfl⟩

set_option maxRecDepth 100000 in
set_option maxHeartbeats 2000000 in
theorem MText2_any (s : ByteArray) (w : World) (hs : s.size ≤ 2000000) (hT : Tabs w) :
    Calls Tryd.prog 7 #[.string s] w fun e w' => e = .returned (.int .i64 (sumw (sgn s.data.toList))) ∧ Below w.heap.size w w' := by
  have c1 := Signs_any s w hs hT
  have hlen := sgn_len s
  have hrng := hid (sgn_rng s.data.toList)
  clear hT
  go_enter Tryd.func7, Tryd.ntmps7
  go_wp2_with (fail)
  refine c1.mono ?_
  rintro e w1 ⟨v, rfl, hv, hB⟩
  have c2 := Sum_any v _ w1 (by omega) hv (Hid.out hrng)
  clear c1 hv
  go_wp2_with (fail)
  refine c2.mono ?_
  rintro e w' ⟨rfl, rfl⟩
  go_wp2
  go_ret
  exact ⟨rfl, hB⟩

theorem MText_any (s : ByteArray) (w : World) (hs : s.size ≤ 1000000) (hT : Tabs w) :
    Calls Tryd.prog 7 #[.string s] w fun e w' => e = .returned (.int .i64 (sumw (sgn s.data.toList))) ∧ Below w.heap.size w w' := MText2_any s w (Nat.le_trans hs (by decide)) hT
end Go.Proofs.YtempicociampoaaDoor
namespace Go.Proofs.YtempicociampoaaDoor
open Go.RowKit Go.Shelf
attribute [local go_sem] Oper.semAt_some

/-- how wide a text is -/
noncomputable def tw (s : ByteArray) : Int := sumw (sgn s.data.toList)
theorem tw_bd (s : ByteArray) : 0 ≤ tw s ∧ tw s ≤ 10 * s.size := by
  have h1 := sumw_bd (sgn s.data.toList)
  have h2 := sgn_len s
  unfold tw; omega

theorem piece_cells {w : World} {b o : Nat} {x : Int × ByteArray} (h : w.rangeAt b o (encPc x)) : w.cell? ⟨b, o, none⟩ = some (.int .i64 x.1) ∧ w.cell? ⟨b, o + 1, none⟩ = some (.string x.2) := ⟨h 0 _ rfl, h 1 _ rfl⟩

set_option maxRecDepth 100000 in
set_option maxHeartbeats 2000000 in
theorem Wide_any (v : Value) (ps : List (Int × ByteArray)) (w : World) (hl : Sl w 2 encPc v ps) (hb : ∀ p ∈ ps, -1000000000000000000 ≤ p.1 ∧ p.1 ≤ 1000000000000000000 ∧ p.2.size ≤ 1000000) (hT : Tabs w) :
    Calls Tryd.prog 36 #[v] w fun e w' => e = .returned (.int .i64 (endW tw ps)) ∧ Below w.heap.size w w' := by
  by_cases h0 : ps = []
  · subst h0
    obtain ⟨p, c, rfl, -⟩ := hl.shape
    clear hl
    go_enter Tryd.func36, Tryd.ntmps36
    go_wp2
    go_ret
    exact ⟨rfl, Below.refl _ _⟩
  · have hpos : 0 < ps.length := List.length_pos_iff.2 h0
    obtain ⟨b, o, c, rfl, h1, h2, h3⟩ := hl.open h0
    have hlast : ps.getLast? = some ps[ps.length - 1] := by rw [List.getLast?_eq_getElem?]; exact List.getElem?_eq_getElem (by omega)
    obtain ⟨x1, x2⟩ := piece_cells (h3 (ps.length - 1) ps[ps.length - 1] (List.getElem?_eq_getElem (by omega)))
    obtain ⟨q1, q2, q3⟩ := hb _ (List.getElem_mem (show ps.length - 1 < ps.length by omega))
    have hE := hid (show endW tw ps = ps[ps.length - 1].1 + tw ps[ps.length - 1].2 by unfold endW; rw [hlast])
    clear hlast h3 hb hl
    have ht := tw_bd ps[ps.length - 1].2
    generalize ps[ps.length - 1] = x at *
    unfold maxLen at h2
    have hM := fun w (h : Tabs w) => MText_any x.2 w q3 h
    have hMT : ∀ w', Below w.heap.size w w' → Tabs w' := fun w' h => hT.below h
    rw [show sumw (sgn x.2.data.toList) = tw x.2 from rfl] at hM
    generalize tw x.2 = t at *
    replace hM := hid hM
    replace hMT := hid hMT
    clear hT
    have hne : ((ps.length : Int) == 0) = false := by simp; omega
    have hcast : ((ps.length - 1 : Nat) : Int) = (ps.length : Int) - 1 := by omega
    go_enter Tryd.func36, Tryd.ntmps36
    go_upto_region 4 with (fail)
    have hB1 := (Below.refl w.heap.size w).alloc (Nat.le_refl _) (.cells #[.int .i64 x.1, .string x.2] 38)
    have hk := World.alloc_heap_new w (.cells #[.int .i64 x.1, .string x.2] 38)
    have hlt : w.heap.size < (w.alloc (.cells #[.int .i64 x.1, .string x.2] 38)).heap.size := by simp
    have hM2 := hid (hM.out (w.alloc (.cells #[.int .i64 x.1, .string x.2] 38)).drew (hMT.out _ (Below.drew hB1)))
    clear hM hMT x1 x2
    generalize hwb : w.alloc (.cells #[.int .i64 x.1, .string x.2] 38) = w2 at *
    have hwb' := hid hwb
    clear hwb
    have x1 : w2.cell? ⟨w.heap.size, 0, none⟩ = some (.int .i64 x.1) := cell_blk hk rfl
    have x2 : w2.cell? ⟨w.heap.size, 1, none⟩ = some (.string x.2) := cell_blk hk rfl
    have r1 : IntKind.i64.wrap (x.1 + t) = x.1 + t := IntWalk.i64_in _ (by omega)
    go_region_with (go_at_call 7; refine hM2.out.mono ?_; rintro e w' ⟨rfl, hB2⟩; have x1 := (hB2.cell (p := ⟨w.heap.size, 0, none⟩) hlt).trans x1)
    all_goals
      clear r1
      go_wp2
      go_ret
      exact ⟨ret_int hE.out.symm, (Below.drew hB1).trans (hB2.mono hB1.size)⟩
end Go.Proofs.YtempicociampoaaDoor
namespace Go.Proofs.YtempicociampoaaDoor
open Go.RowKit

structure Pat where
  letters : List UInt8
  nums : List Int
  deriving DecidableEq

/-- a pattern's text, read byte by byte: a digit stands at the place behind the letters so far -/
def patStep (p : Pat) (c : UInt8) : Pat :=
  if 48 ≤ c.toNat ∧ c.toNat ≤ 57 then ⟨p.letters, p.nums.set p.letters.length (c.toNat - 48 : Int)⟩ else ⟨p.letters ++ [c], p.nums ++ [0]⟩
def patOf (s : List UInt8) : Pat := s.foldl patStep ⟨[], [0]⟩
theorem patOf_snoc (s : List UInt8) (c : UInt8) : patOf (s ++ [c]) = patStep (patOf s) c := by simp [patOf]
theorem patOf_len (s : List UInt8) : (patOf s).nums.length = (patOf s).letters.length + 1 ∧ (patOf s).letters.length ≤ s.length := by
  have key : ∀ (l : List UInt8) (p : Pat) (n : Nat), p.nums.length = p.letters.length + 1 → p.letters.length ≤ n →
      (l.foldl patStep p).nums.length = (l.foldl patStep p).letters.length + 1 ∧ (l.foldl patStep p).letters.length ≤ n + l.length := by
    intro l
    induction l with
    | nil => intro p n h k; exact ⟨h, k⟩
    | cons c l ih =>
      intro p n h k
      have := ih (patStep p c) (n + 1) (by unfold patStep; split <;> simp [h]) (by unfold patStep; split <;> simp <;> omega)
      rw [List.length_cons, show n + (l.length + 1) = n + 1 + l.length by omega]
      exact this
  have := key s ⟨[], [0]⟩ 0 rfl (Nat.le_refl _)
  rw [Nat.zero_add] at this
  exact this

/-- the eighteen -/
def patTexts : List (List UInt8) := [[46, 114, 101, 49], [46, 117, 110, 49], [49, 116, 105, 111, 110], [50, 115, 115, 50], [49, 110, 97], [49, 110, 101], [110, 49, 116], [116, 50, 116], [49, 109, 97], [108, 49, 108], [50, 105, 110, 103], [49, 100, 101], [101, 114, 49], [49, 108, 121, 46], [49, 99, 97], [49, 99, 111], [111, 49, 114], [49, 112, 97]]
def pats : List Pat := patTexts.map patOf

/-- a pattern's numbers laid in from a place on -/
def addN (at_ : List Int) (from_ : Nat) (nums : List Int) : Nat → List Int
  | 0 => at_
  | k + 1 => (addN at_ from_ nums k).set (from_ + k) (max ((addN at_ from_ nums k).getD (from_ + k) 0) (nums.getD k 0))
theorem addN_len (at_ : List Int) (from_ : Nat) (nums : List Int) : ∀ k, (addN at_ from_ nums k).length = at_.length := by
  intro k; induction k with
  | zero => rfl
  | succ k ih => simp [addN, ih]
def hits (w : List UInt8) (p : Pat) (f : Nat) : Bool := p.letters.isPrefixOf (w.drop f)
def stepF (w : List UInt8) (p : Pat) (at_ : List Int) (f : Nat) : List Int := if hits w p f then addN at_ f p.nums p.nums.length else at_
/-- one pattern at the first f places -/
def onePat (w : List UInt8) (p : Pat) (at_ : List Int) : Nat → List Int
  | 0 => at_
  | f + 1 => stepF w p (onePat w p at_ f) f
theorem stepF_len (w : List UInt8) (p : Pat) (at_ : List Int) (f : Nat) : (stepF w p at_ f).length = at_.length := by unfold stepF; split <;> simp [addN_len]
theorem onePat_len (w : List UInt8) (p : Pat) (at_ : List Int) : ∀ f, (onePat w p at_ f).length = at_.length := by
  intro f; induction f with
  | zero => rfl
  | succ f ih => rw [onePat, stepF_len, ih]
def allPats (w : List UInt8) (ps : List Pat) : List Int := ps.foldl (fun a p => onePat w p a w.length) (List.replicate (w.length + 1) 0)
theorem allPats_snoc (w : List UInt8) (ps : List Pat) (p : Pat) : allPats w (ps ++ [p]) = onePat w p (allPats w ps) w.length := by simp [allPats]
theorem allPats_len (w : List UInt8) (ps : List Pat) : (allPats w ps).length = w.length + 1 := by
  unfold allPats
  have key : ∀ (ps : List Pat) (a : List Int), (ps.foldl (fun a p => onePat w p a w.length) a).length = a.length := by
    intro ps; induction ps with
    | nil => intro a; rfl
    | cons p ps ih => intro a; rw [List.foldl_cons, ih, onePat_len]
  rw [key]; simp

def lowB (c : UInt8) : UInt8 := if 65 ≤ c.toNat ∧ c.toNat ≤ 90 then c + 32 else c
def isLet (c : UInt8) : Bool := decide (97 ≤ (lowB c).toNat ∧ (lowB c).toNat ≤ 122)
def dotted (lw : List UInt8) : List UInt8 := 46 :: (lw ++ [46])
def numsOf (lw : List UInt8) : List Int := ((allPats (dotted lw) pats).drop 2).take (lw.length - 1)
theorem numsOf_len {lw : List UInt8} (h : 1 ≤ lw.length) : (numsOf lw).length = lw.length - 1 := by
  unfold numsOf; simp [allPats_len, dotted]; omega
/-- a word in small letters, if it may have numbers -/
def smallL (s : List UInt8) : Option (List UInt8) := if s.all isLet = true ∧ 2 ≤ s.length ∧ s.length ≤ 60 then some (s.map lowB) else none
def numbersL (s : List UInt8) : List Int := match smallL s with | none => [] | some lw => numsOf lw

/-- behind how many letters: the first k numbers -/
def pointsTo (nums : List Int) : Nat → List Int
  | 0 => []
  | k + 1 => pointsTo nums k ++ (if nums.getD k 0 % 2 = 1 ∧ 2 ≤ k + 1 ∧ k + 1 + 3 ≤ nums.length + 1 then [((k : Int) + 1)] else [])
def pointsL (nums : List Int) : List Int := if nums.length + 1 < 5 then [] else pointsTo nums nums.length

/-- all that is laid in is from 0 to 9 -/
def dig (l : List Int) : Prop := ∀ x ∈ l, 0 ≤ x ∧ x ≤ 9
theorem dig_set {l : List Int} (h : dig l) {v : Int} (hv : 0 ≤ v ∧ v ≤ 9) (i : Nat) : dig (l.set i v) := by
  intro x hx
  rcases List.mem_or_eq_of_mem_set hx with h1 | h1
  · exact h x h1
  · rw [h1]; exact hv
theorem dig_getD {l : List Int} (h : dig l) (i : Nat) : 0 ≤ l.getD i 0 ∧ l.getD i 0 ≤ 9 := by
  rw [List.getD_eq_getElem?_getD]
  cases hi : l[i]? with
  | none => simp
  | some x => exact h x (List.mem_of_getElem? hi)
theorem dig_addN {l : List Int} (h : dig l) {nums : List Int} (hn : dig nums) (f : Nat) : ∀ k, dig (addN l f nums k) := by
  intro k; induction k with
  | zero => exact h
  | succ k ih =>
    refine dig_set ih ?_ _
    have h1 := dig_getD ih (f + k)
    have h2 := dig_getD hn k
    omega
theorem dig_onePat {w : List UInt8} {p : Pat} (hp : dig p.nums) {l : List Int} (h : dig l) : ∀ f, dig (onePat w p l f) := by
  intro f; induction f with
  | zero => exact h
  | succ f ih =>
    unfold onePat stepF
    split
    · exact dig_addN ih hp _ _
    · exact ih
theorem pats_dig : ∀ p ∈ pats, dig p.nums := by
  have : (pats.all fun p => p.nums.all fun x => decide (0 ≤ x ∧ x ≤ 9)) = true := by decide
  intro p hp x hx
  have h1 := List.all_eq_true.1 this p hp
  have h2 := List.all_eq_true.1 h1 x hx
  simpa using h2
theorem dig_allPats (w : List UInt8) {ps : List Pat} (h : ∀ p ∈ ps, dig p.nums) : dig (allPats w ps) := by
  unfold allPats
  have key : ∀ (ps : List Pat) (a : List Int), (∀ p ∈ ps, dig p.nums) → dig a → dig (ps.foldl (fun a p => onePat w p a w.length) a) := by
    intro ps; induction ps with
    | nil => intro a _ h; exact h
    | cons p ps ih => intro a hp ha; exact ih _ (fun q hq => hp q (by simp [hq])) (dig_onePat (hp p (by simp)) ha _)
  exact key ps _ h (fun x hx => by rw [List.eq_of_mem_replicate hx]; omega)
theorem dig_numsOf (lw : List UInt8) : dig (numsOf lw) := fun x hx => dig_allPats _ pats_dig x (List.mem_of_mem_drop (List.mem_of_mem_take hx))
end Go.Proofs.YtempicociampoaaDoor
