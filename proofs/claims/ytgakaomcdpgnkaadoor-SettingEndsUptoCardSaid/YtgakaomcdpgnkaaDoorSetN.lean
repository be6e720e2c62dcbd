/- The walk of layer 18's wakes. -/
import Derived.Test.YtgakaomcdpgnkaaDoorSetK
import Derived.Test.YtgakaomcdpgnkaaDoorSetM
namespace Go.Proofs.YtgakaomcdpgnkaaDoor
open Go.RowKit Go.Shelf

theorem tw_dash : tw dash = 4 := by
  unfold tw
  rw [show sgn dash.data.toList = [45] from sgn_of (by decide) (by decide)]; decide
theorem tw_x : tw ⟨#[120]⟩ = 6 := by
  unfold tw
  rw [show sgn (ByteArray.mk #[120]).data.toList = [120] from sgn_of (by decide) (by decide)]; decide

def wakeL : List It := [⟨1, 5, 0, 0, 0, ⟨#[97]⟩⟩, ⟨2, 4, 2, 1, 0, ⟨#[]⟩⟩, ⟨1, 6, 0, 0, 0, ⟨#[98]⟩⟩, ⟨3, 4, 0, 0, 0, ⟨#[]⟩⟩, ⟨1, 7, 0, 0, 0, ⟨#[99]⟩⟩]
theorem wakeA : setL wakeL (-1) 3 21 false = [(0, ⟨#[97]⟩), (11, ⟨#[98]⟩), (17, dash)] := by kernel_rfl
theorem wakeB : setL wakeL (-1) 5 99 true = [(0, ⟨#[97]⟩), (9, ⟨#[98]⟩), (15, ⟨#[99]⟩)] := by kernel_rfl
theorem wakeC : setL wakeL (-1) 3 18 false = [(0, ⟨#[97]⟩), (8, ⟨#[98]⟩), (14, dash)] := by kernel_rfl

theorem its_lit (w : World) (l : List It) (t : TypeId) (hl : l.length ≤ maxLen) : Sl (w.alloc (.cells (l.flatMap encIt).toArray t)) 6 encIt (.slice (some ⟨w.heap.size, 0, none⟩) l.length l.length) l := by
  refine sl_of_block (World.alloc_heap_new w _) ?_ (fun _ _ => rfl) (Nat.le_refl _) hl
  have : ∀ l : List It, (l.flatMap encIt).length = l.length * 6 := by
    intro l
    induction l with
    | nil => rfl
    | cons a l ih => rw [List.flatMap_cons, List.length_append, ih]; simp [encIt]; omega
  simp only [← this l, List.take_length]
theorem pcs_lit (w : World) (l : List (Int × ByteArray)) (t : TypeId) (hl : l.length ≤ maxLen) : Sl (w.alloc (.cells (l.flatMap encPc).toArray t)) 2 encPc (.slice (some ⟨w.heap.size, 0, none⟩) l.length l.length) l := by
  refine sl_of_block (World.alloc_heap_new w _) ?_ (fun _ _ => rfl) (Nat.le_refl _) hl
  have : ∀ l : List (Int × ByteArray), (l.flatMap encPc).length = l.length * 2 := by
    intro l
    induction l with
    | nil => rfl
    | cons a l ih => rw [List.flatMap_cons, List.length_append, ih]; simp [encPc]; omega
  simp only [← this l, List.take_length]

set_option maxRecDepth 100000 in
set_option maxHeartbeats 4000000 in
theorem wakes18 (w : World) (hT : Tabs w) :
    Calls Tryd.prog 10 #[] w fun e w' => e = .returned (.bool true) ∧ Below w.heap.size w w' := by
  have hL := its_lit w wakeL 45 (by decide)
  have hok : ∀ x ∈ wakeL, x.ok := by
    intro x hx
    simp only [wakeL, List.mem_cons, List.not_mem_nil, or_false] at hx
    rcases hx with rfl | rfl | rfl | rfl | rfl <;> (refine ⟨?_, ?_, ?_, ?_, ?_⟩ <;> constructor <;> decide)
  have B0 := (Below.refl w.heap.size w).alloc (Nat.le_refl _) (.cells (wakeL.flatMap encIt).toArray 45)
  have ew : (wakeL.flatMap encIt).toArray = #[.int .i64 1, .int .i64 5, .int .i64 0, .int .i64 0, .int .i64 0, .string ⟨#[97]⟩, .int .i64 2, .int .i64 4, .int .i64 2, .int .i64 1, .int .i64 0, .string ⟨#[]⟩, .int .i64 1, .int .i64 6, .int .i64 0, .int .i64 0, .int .i64 0, .string ⟨#[98]⟩, .int .i64 3, .int .i64 4, .int .i64 0, .int .i64 0, .int .i64 0, .string ⟨#[]⟩, .int .i64 1, .int .i64 7, .int .i64 0, .int .i64 0, .int .i64 0, .string ⟨#[99]⟩] := rfl
  rw [ew] at hL B0
  generalize hw0 : w.alloc (.cells #[.int .i64 1, .int .i64 5, .int .i64 0, .int .i64 0, .int .i64 0, .string ⟨#[97]⟩, .int .i64 2, .int .i64 4, .int .i64 2, .int .i64 1, .int .i64 0, .string ⟨#[]⟩, .int .i64 1, .int .i64 6, .int .i64 0, .int .i64 0, .int .i64 0, .string ⟨#[98]⟩, .int .i64 3, .int .i64 4, .int .i64 0, .int .i64 0, .int .i64 0, .string ⟨#[]⟩, .int .i64 1, .int .i64 7, .int .i64 0, .int .i64 0, .int .i64 0, .string ⟨#[99]⟩] 45) = w0 at hL B0
  have cL := fun w' (h : Below w0.heap.size w0 w') (n t wd : Int) (last : Bool) (h1 : w64 n) (h2 : w64 t) (h3 : w64 wd) => SLine_any _ wakeL n t wd last w' ((Kept.of_below h 0).sl hL) (by decide) h1 h2 h3 hok
  have HL := hid cL
  have hT0 := hT.below B0
  clear cL hL hok ew hT
  replace hT0 := hid hT0
  replace hw0 := hid hw0
  replace B0 := hid B0
  go_enter Tryd.func10, Tryd.ntmps10
  go_wp2_with (fail)
  rw [hw0.out]
  refine (HL.out w0 (Below.refl _ _) (-1) 3 21 false (by constructor <;> decide) (by constructor <;> decide) (by constructor <;> decide)).mono ?_
  rw [wakeA]
  rintro e w1 ⟨a, rfl, ha, B1⟩
  replace ha := hid ha
  replace B1 := hid B1
  go_wp2_with (fail)
  refine (HL.out w1 B1.out (-1) 5 99 true (by constructor <;> decide) (by constructor <;> decide) (by constructor <;> decide)).mono ?_
  rw [wakeB]
  rintro e w2 ⟨b, rfl, hb, B2⟩
  replace hb := hid hb
  replace B2 := hid B2
  go_wp2_with (fail)
  have B12 := B1.out.trans (B2.out.mono B1.out.size)
  replace B12 := hid B12
  refine (HL.out w2 B12.out (-1) 3 18 false (by constructor <;> decide) (by constructor <;> decide) (by constructor <;> decide)).mono ?_
  rw [wakeC]
  rintro e w3 ⟨c, rfl, hc, B3⟩
  have ha3 := (Kept.of_below B3 0).sl ((Kept.of_below B2.out 0).sl ha.out)
  have hb3 := (Kept.of_below B3 0).sl hb.out
  have B03 := B0.out.trans ((B12.out.trans (B3.mono B12.out.size)).mono B0.out.size)
  have hT3 := hT0.out.below (B12.out.trans (B3.mono B12.out.size))
  clear ha hb B12 B1 B2 B0 HL hT0 B3 hw0
  replace ha3 := hid ha3
  replace hT3 := hid hT3
  replace B03 := hid B03
  obtain ⟨bb, bo, bc, rfl, hb1, hb2, hbr⟩ := hb3.open (by simp)
  obtain ⟨cb, co, cc, rfl, hc1, hc2, hcr⟩ := hc.open (by simp)
  obtain ⟨k1, -⟩ := piece_cells (hbr 2 _ rfl)
  obtain ⟨k2, -⟩ := piece_cells (hcr 1 _ rfl)
  replace hb3 := hid hb3
  replace hc := hid hc
  clear hbr hcr
  simp only [List.length_cons, List.length_nil] at hb1 hc1 ⊢
  go_wp2_with (fail)
  have hp3 := pcs_lit w3 [(0, ⟨#[97]⟩), (11, ⟨#[98]⟩), (17, dash)] 41 (by decide)
  have B4 := B03.out.alloc B03.out.size (.cells #[.int .i64 0, .string ⟨#[97]⟩, .int .i64 11, .string ⟨#[98]⟩, .int .i64 17, .string ⟨#[45]⟩] 41)
  have K4 := Kept.alloc 0 w3 (.cells #[.int .i64 0, .string ⟨#[97]⟩, .int .i64 11, .string ⟨#[98]⟩, .int .i64 17, .string ⟨#[45]⟩] 41)
  have T4 := Tabs.alloc hT3.out (.cells #[.int .i64 0, .string ⟨#[97]⟩, .int .i64 11, .string ⟨#[98]⟩, .int .i64 17, .string ⟨#[45]⟩] 41)
  refine (Pieces_eq _ _ _ [(0, ⟨#[97]⟩), (11, ⟨#[98]⟩), (17, dash)] (K4.sl ha3.out) hp3).mono ?_
  rintro e w' ⟨rfl, n4, rfl⟩
  have ha4 := (Kept.drewN 0 _ n4).sl (K4.sl ha3.out)
  have T5 := T4.drewN n4
  have B5 := B4.drewN n4
  have k1' := (Kept.drewN 0 _ n4).cell (K4.cell k1)
  have k2' := (Kept.drewN 0 _ n4).cell (K4.cell k2)
  clear K4 T4 B4 hp3 k1 k2 hT3 B03 ha3 hb3 hc
  generalize (w3.alloc _).drewN n4 = w5 at *
  replace ha4 := hid ha4
  replace T5 := hid T5
  replace B5 := hid B5
  go_wp2_with (fail)
  refine (Wide_any _ _ w5 ha4.out (by intro p hp; simp only [List.mem_cons, List.not_mem_nil, or_false] at hp; rcases hp with rfl | rfl | rfl <;> decide) T5.out).mono ?_
  rw [show endW tw [(0, ⟨#[97]⟩), (11, ⟨#[98]⟩), (17, dash)] = 17 + tw dash from rfl, tw_dash]
  rintro e w6 ⟨rfl, B6⟩
  have j1 := (Kept.of_below B6 0).cell k1'
  have j2 := (Kept.of_below B6 0).cell k2'
  have T6 := T5.out.below B6
  have B56 := B5.out.trans (B6.mono B5.out.size)
  clear k1' k2' B6 T5 B5 ha4
  replace T6 := hid T6
  replace B56 := hid B56
  go_wp2_with (fail)
  refine (Wide_any _ [] w6 (.inl ⟨rfl, rfl⟩) (by simp) T6.out).mono ?_
  rintro e w7 ⟨rfl, B7⟩
  rw [show endW tw [] = 0 from rfl]
  go_wp2
  go_ret
  exact ⟨rfl, B56.out.trans (B7.mono B56.out.size)⟩
end Go.Proofs.YtgakaomcdpgnkaaDoor
