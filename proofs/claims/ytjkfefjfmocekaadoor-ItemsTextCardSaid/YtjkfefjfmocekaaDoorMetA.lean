/- Widths: the plain law, and the walks of metric.Sign, the reference's in and Sign. -/
import Derived.Test.YtjkfefjfmocekaaDoorJ2
namespace Go.Proofs.YtjkfefjfmocekaaDoor
open Go.RowKit Go.Shelf

def memb (l : List UInt8) (v : Int) : Bool := l.any fun b => (b.toNat : Int) == v
def narrowL : List UInt8 := [105, 106, 108, 46, 44, 59, 58, 33, 124, 39]
def slimL : List UInt8 := [102, 116, 114, 40, 41, 91, 93, 45, 34]
def wideL : List UInt8 := [109, 119, 77, 87, 64]
/-- how wide a sign is -/
def width (v : Int) : Int := if memb narrowL v then 3 else if memb slimL v then 4 else if memb wideL v then 9 else if 65 ≤ v ∧ v ≤ 90 then 7 else if 33 ≤ v ∧ v ≤ 126 then 6 else 10

theorem memb_range {l : List UInt8} (hl : ∀ b ∈ l, 33 ≤ b.toNat ∧ b.toNat ≤ 126) {v : Int} (h : v < 33 ∨ 126 < v) : memb l v = false := by
  unfold memb
  rw [List.any_eq_false]
  intro b hb
  have := hl b hb
  simp; omega
theorem width_out {v : Int} (h : v < 33 ∨ 126 < v) : width v = 10 := by
  unfold width
  rw [memb_range (by decide) h, memb_range (by decide) h, memb_range (by decide) h]
  simp; omega
theorem width_bd (v : Int) : 3 ≤ width v ∧ width v ≤ 10 := by
  unfold width
  repeat (first | split | omega)
theorem width_kinds (v : Int) : width v = 3 ∨ width v = 4 ∨ width v = 6 ∨ width v = 7 ∨ width v = 9 ∨ width v = 10 := by
  unfold width
  repeat (first | split | omega)

theorem ib (l : List UInt8) (v : Int) (h0 : 0 ≤ v) (h1 : v ≤ 255) : -1 ≤ Lib.indexByte l v.toNat.toUInt8 ∧ (0 ≤ Lib.indexByte l v.toNat.toUInt8 ↔ memb l v = true) := by
  induction l with
  | nil => exact ⟨by simp [Lib.indexByte], by simp [Lib.indexByte, memb]⟩
  | cons b l ih =>
    obtain ⟨i1, i2⟩ := ih
    have hb := b8 h0 h1
    have he : (b == v.toNat.toUInt8) = ((b.toNat : Int) == v) := by
      rw [Bool.eq_iff_iff]
      simp only [beq_iff_eq]
      constructor
      · intro h; rw [h, hb]; omega
      · intro h; apply UInt8.toNat_inj.1; rw [hb]; omega
    unfold Lib.indexByte
    rw [he]
    show _ ∧ (_ ↔ (((b.toNat : Int) == v) || memb l v) = true)
    cases hq : ((b.toNat : Int) == v) with
    | true => simp
    | false =>
      simp only [Bool.false_or]
      rw [← i2]
      generalize Lib.indexByte l v.toNat.toUInt8 = q at *
      by_cases hm : q = -1
      · simp [hm]
      · have : (q == -1) = false := by simpa using hm
        rw [this]
        simp; omega

set_option maxRecDepth 100000 in
set_option maxHeartbeats 2000000 in
theorem Sign_any (v : Int) (w : World) (z1 : -9223372036854775808 ≤ v) (z2 : v ≤ 9223372036854775807) :
    Calls Tryd.prog 10 #[.int .i64 v] w fun e w' => e = .returned (.int .i64 (width v)) ∧ w' = w := by
  by_cases ho : v < 33 ∨ 126 < v
  · have hw := hid (width_out ho)
    have hc : v < 33 ∨ 33 ≤ v ∧ 126 < v := by omega
    clear ho
    rcases hc with x1 | ⟨x1, x2⟩
    all_goals
      go_enter Tryd.func10, Tryd.ntmps10
      go_wp2
      go_ret
      exact ⟨by rw [Hid.out hw]; rfl, rfl⟩
  · have x1 : 33 ≤ v := by omega
    have x2 : v ≤ 126 := by omega
    clear ho
    obtain ⟨a1, a2⟩ := ib narrowL v (by omega) (by omega)
    obtain ⟨b1, b2⟩ := ib slimL v (by omega) (by omega)
    obtain ⟨c1, c2⟩ := ib wideL v (by omega) (by omega)
    have cN := Tryd.strings_IndexByte ⟨#[105, 106, 108, 46, 44, 59, 58, 33, 124, 39]⟩ v w
    have cS := Tryd.strings_IndexByte ⟨#[102, 116, 114, 40, 41, 91, 93, 45, 34]⟩ v w
    have cM := Tryd.strings_IndexByte ⟨#[109, 119, 77, 87, 64]⟩ v w
    change Calls _ _ _ _ (fun e w' => e = .returned (.int .i64 (Lib.indexByte narrowL v.toNat.toUInt8)) ∧ w' = w) at cN
    change Calls _ _ _ _ (fun e w' => e = .returned (.int .i64 (Lib.indexByte slimL v.toNat.toUInt8)) ∧ w' = w) at cS
    change Calls _ _ _ _ (fun e w' => e = .returned (.int .i64 (Lib.indexByte wideL v.toNat.toUInt8)) ∧ w' = w) at cM
    have hwd : width v = if memb narrowL v then 3 else if memb slimL v then 4 else if memb wideL v then 9 else if 65 ≤ v ∧ v ≤ 90 then 7 else 6 := by
      unfold width; rw [if_pos (show 33 ≤ v ∧ v ≤ 126 from ⟨x1, x2⟩)]
    generalize Lib.indexByte narrowL v.toNat.toUInt8 = i1 at *
    generalize Lib.indexByte slimL v.toNat.toUInt8 = i2 at *
    generalize Lib.indexByte wideL v.toNat.toUInt8 = i3 at *
    have hcs : (0 ≤ i1 ∧ width v = 3) ∨ (i1 < 0 ∧ 0 ≤ i2 ∧ width v = 4) ∨ (i1 < 0 ∧ i2 < 0 ∧ 0 ≤ i3 ∧ width v = 9) ∨ (i1 < 0 ∧ i2 < 0 ∧ i3 < 0 ∧ 65 ≤ v ∧ v ≤ 90 ∧ width v = 7) ∨ (i1 < 0 ∧ i2 < 0 ∧ i3 < 0 ∧ v < 65 ∧ width v = 6) ∨ (i1 < 0 ∧ i2 < 0 ∧ i3 < 0 ∧ 65 ≤ v ∧ 90 < v ∧ width v = 6) := by
      by_cases p1 : 0 ≤ i1
      · exact .inl ⟨p1, by rw [hwd, if_pos (a2.1 p1)]⟩
      rw [if_neg (fun h => p1 (a2.2 h))] at hwd
      by_cases p2 : 0 ≤ i2
      · exact .inr (.inl ⟨by omega, p2, by rw [hwd, if_pos (b2.1 p2)]⟩)
      rw [if_neg (fun h => p2 (b2.2 h))] at hwd
      by_cases p3 : 0 ≤ i3
      · exact .inr (.inr (.inl ⟨by omega, by omega, p3, by rw [hwd, if_pos (c2.1 p3)]⟩))
      rw [if_neg (fun h => p3 (c2.2 h))] at hwd
      by_cases p4 : 65 ≤ v ∧ v ≤ 90
      · rw [if_pos p4] at hwd
        exact .inr (.inr (.inr (.inl ⟨by omega, by omega, by omega, p4.1, p4.2, hwd⟩)))
      · rw [if_neg p4] at hwd
        by_cases p5 : v < 65
        · exact .inr (.inr (.inr (.inr (.inl ⟨by omega, by omega, by omega, p5, hwd⟩))))
        · exact .inr (.inr (.inr (.inr (.inr ⟨by omega, by omega, by omega, by omega, by omega, hwd⟩))))
    clear a1 a2 b1 b2 c1 c2 hwd
    rcases hcs with ⟨p1, hw⟩ | ⟨p1, p2, hw⟩ | ⟨p1, p2, p3, hw⟩ | ⟨p1, p2, p3, p4, p5, hw⟩ | ⟨p1, p2, p3, p4, hw⟩ | ⟨p1, p2, p3, p4, p5, hw⟩
    all_goals
      replace hw := hid hw
      go_enter Tryd.func10, Tryd.ntmps10
      go_wp2_with (fail)
      refine cN.mono ?_
      rintro e w' ⟨rfl, rfl⟩
      try
        go_wp2_with (fail)
        refine cS.mono ?_
        rintro e w' ⟨rfl, rfl⟩
      try
        go_wp2_with (fail)
        refine cM.mono ?_
        rintro e w' ⟨rfl, rfl⟩
      go_wp2
      go_ret
      exact ⟨by rw [Hid.out hw]; rfl, rfl⟩
end Go.Proofs.YtjkfefjfmocekaaDoor
