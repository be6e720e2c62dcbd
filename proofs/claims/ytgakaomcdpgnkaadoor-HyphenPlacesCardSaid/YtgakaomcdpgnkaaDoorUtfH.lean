/- The walk of the reference's Text. -/
import Derived.Test.YtgakaomcdpgnkaaDoorHypS
import Derived.Deep.CutBlock
import Derived.Test.YtgakaomcdpgnkaaDoorApp
namespace Go.Proofs.YtgakaomcdpgnkaaDoor
open Go.RowKit Go.Shelf

theorem txt_le : ∀ {ys : List Int}, (∀ y ∈ ys, okv y) → (txt ys).length ≤ 4 * ys.length
  | [], _ => Nat.le_refl _
  | y :: ys, h => by
    have h1 := txt_le (fun z hz => h z (by simp [hz]) : ∀ z ∈ ys, okv z)
    have h2 := (enc_len (h y (by simp))).2
    rw [txt_cons, List.length_append, List.length_cons]
    omega
def nums (l : List Int) : List Int := l.flatMap Lib.encodeRuneZ
theorem nums_txt (l : List Int) : strOfNums (nums l) = ⟨(txt l).toArray⟩ := by
  have : ∀ l : List Int, (nums l).map (fun n => UInt8.ofNat n.toNat) = txt l := by
    intro l
    induction l with
    | nil => rfl
    | cons x l ih =>
      show (nums (x :: l)).map _ = txt (x :: l)
      rw [txt_cons, ← ih]
      simp [nums, Lib.encodeRune]
  unfold strOfNums
  rw [this]
theorem nums_len (l : List Int) : (nums l).length = (txt l).length := by
  rw [← strOfNums_size, nums_txt]; rfl
theorem encB_le (l : List Int) : (l.flatMap encB).length = l.length := by
  induction l with
  | nil => rfl
  | cons x l ih => rw [List.flatMap_cons, List.length_append, ih]; simp [encB]; omega

/-- what the reference's Text answers -/
def rtextOut (l : List Int) : Array Value := if ∀ x ∈ l, okv x then #[.string ⟨(txt l).toArray⟩, .bool true] else #[.string ⟨#[]⟩, .bool false]

set_option maxRecDepth 100000 in
set_option maxHeartbeats 2000000 in
theorem RText_any (v : Value) (l : List Int) (w : World) (hl : l.length ≤ 1000000) (hsl : Sl w 1 encI v l) (hr : ∀ x ∈ l, -9223372036854775808 ≤ x ∧ x ≤ 9223372036854775807) :
    Calls Tryd.prog 24 #[v] w fun e w' => e = .returned (.tuple (rtextOut l)) ∧ Below w.heap.size w w' := by
  obtain ⟨i0, hi, hz0, hz1, hz2⟩ := info_parts Tryd.infoU8
  obtain ⟨p, cap, rfl, hmx⟩ := hsl.shape
  go_enter Tryd.func24, Tryd.ntmps24
  go_wp2
  go_loopw [4, 5, 6] (fun b i _ wr => ∃ k : Nat, k ≤ l.length ∧ (∀ y ∈ l.take k, okv y) ∧ i = .int .i64 k ∧ wr.ownsRow w.heap.size 5 1 b (nums (l.take k)).length ((nums (l.take k)).flatMap encB) ∧ Below w.heap.size w wr) (fun _ i _ _ => l.length - (RowKit.intOf i).toNat)
  case atStart => exact ⟨0, Nat.zero_le _, by simp, rfl, World.ownsRow_nil _ _ _ _, Below.refl _ _⟩
  case round =>
    obtain ⟨k, hk, hok, rfl, hrow, hB⟩ := hrel
    obtain ⟨pv, cv, rfl, hn1, hn2⟩ := owns_shape hrow
    have hnl : (nums (l.take k)).length ≤ 4000000 := by
      have := txt_le hok
      rw [List.length_take] at this
      rw [nums_len]; omega
    by_cases hkl : k < l.length
    · have hne : l ≠ [] := by intro h; rw [h] at hkl; simp at hkl
      obtain ⟨b, o, cap', he, h1, h2, h3⟩ := hsl.open hne
      cases he
      have hc0 := rangeAt_one (h3 k l[k] (List.getElem?_eq_getElem hkl))
      have hc : wr.cell? ⟨b, o + k, none⟩ = some (.int .i64 l[k]) := by
        have := (Kept.of_below hB 0).cell hc0
        simpa using this
      obtain ⟨x, hx⟩ : ∃ x, l[k] = x := ⟨_, rfl⟩
      have hxm : x ∈ l := by rw [← hx]; exact List.getElem_mem hkl
      have hxr := hr x hxm
      rw [hx] at hc
      have htk : l.take (k + 1) = l.take k ++ [x] := by rw [List.take_succ_eq_append_getElem hkl, hx]
      clear hx
      have hcall := Bytes_any x wr hxr.1 hxr.2
      have Hr := hid hr
      have Hok := hid hok
      have Htk := hid htk
      have Hsl := hid hsl
      obtain ⟨q, hq⟩ : ∃ q, nums (l.take k) = q := ⟨_, rfl⟩
      rw [hq] at hrow hn1 hnl ⊢
      have Hq := hid hq
      have Hxm := hid hxm
      clear hr hok htk hsl hq hxr h3 hxm
      go_wp2_with (fail)
      refine hcall.mono ?_
      rintro e w' ⟨y, rfl, hy, hbel⟩
      have hB2 := hB.trans (hbel.mono hB.size)
      have hrow2 := (Kept.of_below hbel 0).owns hrow
      have Hc := hid hc
      clear hcall hrow hc
      obtain ⟨py, cy, rfl, hy2⟩ := hy.shape
      by_cases hxo : okv x
      · have hrb : rbytes x = Lib.encodeRuneZ x := if_pos hxo
        have hl1 : 1 ≤ (rbytes x).length ∧ (rbytes x).length ≤ 4 := by
          rw [hrb]
          have := enc_len hxo
          unfold Lib.encodeRune at this
          rw [List.length_map] at this; exact this
        obtain ⟨m, hm⟩ : ∃ m, (rbytes x).length = m := ⟨_, rfl⟩
        have hm' := hm
        rw [hm] at hl1
        obtain ⟨hl1, hl2⟩ := hl1
        have hm0 : ¬ (m : Int) = 0 := by omega
        have Hrb := hid hrb
        have Hxo := hid hxo
        have Hm := hid hm
        have Hy := hid hy
        rw [hm]
        clear hrb hxo hm hm' hy
        go_wp2_with (at_builtin; go_must (refine wpList_append_sl rfl _ _ 78 rfl w.heap.size 5 i0 _ 1 1 Tryd.underlying78 hi hz0 hz1 hz2 rfl (by decide) _ _ _ rfl hrow2 encB _ (rbytes x) rfl (by have := Hid.out Hy; rw [Hid.out Hm] at this; exact this) (fun u _ => ⟨rfl, by simp [encB, Value.oneCell']⟩) (by rw [Hid.out Hm]; unfold maxLen; omega) (by rw [Hid.out Hm]; omega) hB2.size ?_; intro v' w1 hown' hgrow _))
        have hnq : nums (l.take (k + 1)) = q ++ rbytes x := by
          rw [Hid.out Htk, ← Hid.out Hq, Hid.out Hrb]; simp [nums]
        refine ⟨⟨k + 1, by omega, ?_, rfl, ?_, hB2.grown hgrow hB2.size (fun j e => own_base hrow2 e)⟩, ?_⟩
        · intro z hz
          rw [Hid.out Htk] at hz
          rcases List.mem_append.1 hz with h | h
          · exact Hid.out Hok z h
          · rw [List.mem_singleton.1 h]; exact Hid.out Hxo
        · rw [hnq, List.length_append, List.flatMap_append]; exact hown'
        · simp only [RowKit.intOf]; omega
      · have hrb : rbytes x = [] := if_neg hxo
        have hno : ¬ ∀ y ∈ l, okv y := fun h => hxo (h x (Hid.out Hxm))
        have Hno := hid hno
        have h0 : ((rbytes x).length : Int) = 0 := by rw [hrb]; rfl
        clear hno hxo hrb hy
        go_wp2
        go_ret2
        exact ⟨by rw [show rtextOut l = _ from if_neg (Hid.out Hno)]; rfl, hB2⟩
    · obtain rfl : k = l.length := by omega
      rw [List.take_length] at hrow hok hn1 hnl ⊢
      have hsl2 := sl_of_owns (enc := encB) (fun _ _ => rfl) hrow
      have hcv := conv_sl hsl2
      rw [nums_txt] at hcv
      obtain ⟨s, hs⟩ : ∃ s : ByteArray, (⟨(txt l).toArray⟩ : ByteArray) = s := ⟨_, rfl⟩
      rw [hs] at hcv
      have Hs := hid hs
      have Hok := hid hok
      clear hok hs hsl2 hrow hr hsl
      go_wp2
      go_ret2
      exact ⟨by rw [show rtextOut l = _ from if_pos (Hid.out Hok), Hid.out Hs]; rfl, hB⟩
end Go.Proofs.YtgakaomcdpgnkaaDoor
