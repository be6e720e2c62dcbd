/- The walks of the reference's in and Sign, of sum and the Texts, and of layer 10's wakes. The walk of the reference's plain. -/
import Derived.Test.YtempicociampoaaGreatDoorJ16
namespace Go.Proofs.YtempicociampoaaGreatDoor
open Go.RowKit Go.Shelf

set_option maxRecDepth 100000 in
set_option maxHeartbeats 2000000 in
theorem In_any (v : Int) (s : ByteArray) (w : World) (hs : s.size ≤ 1000) :
    Calls Tryz.prog 92 #[.int .i64 v, .string s] w fun e w' => e = .returned (.bool (memb s.data.toList v)) ∧ w' = w := by
  have hsz : s.data.toList.length = s.size := by rw [Array.length_toList]; rfl
  go_enter Tryz.func92, Tryz.ntmps92
  go_wp2
  go_loopw [4, 5] (fun a i wr => ∃ k : Nat, k ≤ s.size ∧ a = .bool false ∧ i = .int .i64 k ∧ memb (s.data.toList.take k) v = false ∧ wr = w) (fun _ i _ => s.size - (RowKit.intOf i).toNat)
  case atStart => exact ⟨0, Nat.zero_le _, rfl, rfl, rfl, rfl⟩
  case round =>
    obtain ⟨k, hk, rfl, rfl, hm, rfl⟩ := hrel
    have Hm := hid hm
    clear hm
    by_cases hlt : k < s.size
    · have hget : s.data.toList[k]? = some (s[k]'hlt) := by
        rw [List.getElem?_eq_getElem (by rw [hsz]; exact hlt)]; rfl
      obtain ⟨c, hc⟩ : ∃ c, s[k]'hlt = c := ⟨_, rfl⟩
      rw [hc] at hget
      have htk : s.data.toList.take (k + 1) = s.data.toList.take k ++ [c] := by
        rw [List.take_add_one, hget]; rfl
      have Htk := hid htk
      have Hget := hid hget
      have hb1 := c.toNat_lt
      clear htk hget
      by_cases hv : (c.toNat : Int) = v
      · have hall : memb s.data.toList v = true := by
          unfold memb
          rw [List.any_eq_true]
          exact ⟨c, List.mem_of_getElem? (Hid.out Hget), by simp [hv]⟩
        have Hall := hid hall
        clear hall
        subst hv
        go_wp2
        go_ret
        exact ⟨by rw [Hid.out Hall]; rfl, rfl⟩
      · go_wp2
        refine ⟨⟨k + 1, by omega, rfl, rfl, ?_, trivial⟩, ?_⟩
        · rw [Hid.out Htk]
          have := Hid.out Hm
          unfold memb at this ⊢
          rw [List.any_append, this]
          simp [hv]
        · simp only [RowKit.intOf]; omega
    · have hall : memb s.data.toList v = false := by
        have := Hid.out Hm
        rw [List.take_of_length_le (by rw [hsz]; omega)] at this
        exact this
      have Hall := hid hall
      clear hall
      go_wp2
      go_ret
      exact ⟨by rw [Hid.out Hall]; rfl, rfl⟩

set_option maxRecDepth 100000 in
set_option maxHeartbeats 2000000 in
theorem RSign_any (v : Int) (w : World) (z1 : -9223372036854775808 ≤ v) (z2 : v ≤ 9223372036854775807) :
    Calls Tryz.prog 65 #[.int .i64 v] w fun e w' => e = .returned (.int .i64 (width v)) ∧ w' = w := by
  have cN := In_any v ⟨#[105, 106, 108, 46, 44, 59, 58, 33, 124, 39]⟩ w (by decide)
  have cS := In_any v ⟨#[102, 116, 114, 40, 41, 91, 93, 45, 34]⟩ w (by decide)
  have cM := In_any v ⟨#[109, 119, 77, 87, 64]⟩ w (by decide)
  change Calls _ _ _ _ (fun e w' => e = .returned (.bool (memb narrowL v)) ∧ w' = w) at cN
  change Calls _ _ _ _ (fun e w' => e = .returned (.bool (memb slimL v)) ∧ w' = w) at cS
  change Calls _ _ _ _ (fun e w' => e = .returned (.bool (memb wideL v)) ∧ w' = w) at cM
  have hwd : width v = if memb narrowL v then 3 else if memb slimL v then 4 else if memb wideL v then 9 else if 65 ≤ v ∧ v ≤ 90 then 7 else if 33 ≤ v ∧ v ≤ 126 then 6 else 10 := rfl
  generalize memb narrowL v = i1 at *
  generalize memb slimL v = i2 at *
  generalize memb wideL v = i3 at *
  have hcs : (i1 = true ∧ width v = 3) ∨ (i1 = false ∧ i2 = true ∧ width v = 4) ∨ (i1 = false ∧ i2 = false ∧ i3 = true ∧ width v = 9) ∨ (i1 = false ∧ i2 = false ∧ i3 = false ∧ 65 ≤ v ∧ v ≤ 90 ∧ width v = 7) ∨
      (i1 = false ∧ i2 = false ∧ i3 = false ∧ v < 65 ∧ v < 33 ∧ width v = 10) ∨ (i1 = false ∧ i2 = false ∧ i3 = false ∧ v < 65 ∧ 33 ≤ v ∧ v ≤ 126 ∧ width v = 6) ∨ (i1 = false ∧ i2 = false ∧ i3 = false ∧ 65 ≤ v ∧ 90 < v ∧ 33 ≤ v ∧ v ≤ 126 ∧ width v = 6) ∨ (i1 = false ∧ i2 = false ∧ i3 = false ∧ 65 ≤ v ∧ 90 < v ∧ 33 ≤ v ∧ 126 < v ∧ width v = 10) := by
    cases i1 with
    | true => exact .inl ⟨rfl, hwd⟩
    | false =>
      cases i2 with
      | true => exact .inr (.inl ⟨rfl, rfl, hwd⟩)
      | false =>
        cases i3 with
        | true => exact .inr (.inr (.inl ⟨rfl, rfl, rfl, hwd⟩))
        | false =>
          simp only [Bool.false_eq_true, if_false] at hwd
          by_cases p4 : 65 ≤ v ∧ v ≤ 90
          · rw [if_pos p4] at hwd
            exact .inr (.inr (.inr (.inl ⟨rfl, rfl, rfl, p4.1, p4.2, hwd⟩)))
          · rw [if_neg p4] at hwd
            by_cases p5 : v < 33
            · rw [if_neg (by omega)] at hwd
              exact .inr (.inr (.inr (.inr (.inl ⟨rfl, rfl, rfl, by omega, p5, hwd⟩))))
            · by_cases p6 : v < 65
              · rw [if_pos (by omega)] at hwd
                exact .inr (.inr (.inr (.inr (.inr (.inl ⟨rfl, rfl, rfl, p6, by omega, by omega, hwd⟩)))))
              · by_cases p7 : v ≤ 126
                · rw [if_pos (by omega)] at hwd
                  exact .inr (.inr (.inr (.inr (.inr (.inr (.inl ⟨rfl, rfl, rfl, by omega, by omega, by omega, p7, hwd⟩))))))
                · rw [if_neg (by omega)] at hwd
                  exact .inr (.inr (.inr (.inr (.inr (.inr (.inr ⟨rfl, rfl, rfl, by omega, by omega, by omega, by omega, hwd⟩))))))
  clear hwd
  rcases hcs with ⟨rfl, hw⟩ | ⟨rfl, rfl, hw⟩ | ⟨rfl, rfl, rfl, hw⟩ | ⟨rfl, rfl, rfl, p4, p5, hw⟩ | ⟨rfl, rfl, rfl, p4, p5, hw⟩ | ⟨rfl, rfl, rfl, p4, p5, p6, hw⟩ | ⟨rfl, rfl, rfl, p4, p5, p6, p7, hw⟩ | ⟨rfl, rfl, rfl, p4, p5, p6, p7, hw⟩
  all_goals
    replace hw := hid hw
    go_enter Tryz.func65, Tryz.ntmps65
    go_wp2_with (fail)
    refine cN.mono ?_
    rintro e w' ⟨rfl, rfl⟩
    try
      go_wp2_with (fail)
      refine cS.mono ?_
      rintro e w' ⟨rfl, rfl⟩
    try
      go_wp2_with (fail)
      refine cM.mono ?_
      rintro e w' ⟨rfl, rfl⟩
    go_wp2
    go_ret
    exact ⟨by rw [Hid.out hw]; rfl, rfl⟩

/-- how wide signs are together -/
def sumw (l : List Int) : Int := (l.map width).sum
theorem sumw_append (a b : List Int) : sumw (a ++ b) = sumw a + sumw b := by simp [sumw]
theorem sumw_bd : ∀ l : List Int, 0 ≤ sumw l ∧ sumw l ≤ 10 * l.length
  | [] => ⟨by decide, by decide⟩
  | x :: l => by
    have h1 := sumw_bd l
    have h2 := width_bd x
    have : sumw (x :: l) = width x + sumw l := by simp [sumw]
    rw [this, List.length_cons]; omega
theorem sumw_take {l : List Int} {k : Nat} (h : k < l.length) : sumw (l.take (k + 1)) = sumw (l.take k) + width l[k] := by
  rw [List.take_succ_eq_append_getElem h, sumw_append]; simp [sumw]

set_option maxRecDepth 100000 in
set_option maxHeartbeats 2000000 in
theorem Sum_any (v : Value) (l : List Int) (w : World) (hl : l.length ≤ 2000000) (hsl : Sl w 1 encI v l) (hr : ∀ x ∈ l, -9223372036854775808 ≤ x ∧ x ≤ 9223372036854775807) :
    Calls Tryz.prog 72 #[v, .func (.func 74) #[] #[]] w fun e w' => e = .returned (.int .i64 (sumw l)) ∧ w' = w := by
  obtain ⟨p, cap, rfl, hmx⟩ := hsl.shape
  go_enter Tryz.func72, Tryz.ntmps72
  go_wp2
  go_loopw [5, 7, 10] (fun a _ i wr => ∃ k : Nat, k ≤ l.length ∧ a = .int .i64 (sumw (l.take k)) ∧ i = .int .i64 k ∧ wr = w) (fun _ _ i _ => l.length - (RowKit.intOf i).toNat)
  case atStart => exact ⟨0, Nat.zero_le _, rfl, rfl, rfl⟩
  case round =>
    obtain ⟨k, hk, rfl, rfl, rfl⟩ := hrel
    have hbd := sumw_bd (l.take k)
    by_cases hkl : k < l.length
    · have hne : l ≠ [] := by intro h; rw [h] at hkl; simp at hkl
      obtain ⟨b, o, cap', he, h1, h2, h3⟩ := hsl.open hne
      cases he
      have hc := rangeAt_one (h3 k l[k] (List.getElem?_eq_getElem hkl))
      simp only [Nat.mul_one] at hc
      have hnx := sumw_take hkl
      have hxr := hr l[k] (List.getElem_mem hkl)
      have hwb := width_bd l[k]
      have hcall := Sign_any l[k] wr hxr.1 hxr.2
      rw [List.length_take] at hbd
      generalize l[k] = x at *
      obtain ⟨S, hS⟩ : ∃ S, sumw (l.take k) = S := ⟨_, rfl⟩
      rw [hS] at hnx hbd ⊢
      have Hnx := hid hnx
      obtain ⟨X, hX⟩ : ∃ X, width x = X := ⟨_, rfl⟩
      rw [hX] at hcall hwb
      have HX := hid hX
      clear hnx hS hX h3 hr hsl hxr
      go_wp2_with (fail)
      refine hcall.mono ?_
      rintro e w' ⟨rfl, rfl⟩
      go_wp2
      refine ⟨⟨k + 1, by omega, ?_, rfl, trivial⟩, ?_⟩
      · rw [Hid.out Hnx, Hid.out HX]
      · simp only [RowKit.intOf]; omega
    · obtain rfl : k = l.length := by omega
      rw [List.take_length] at *
      clear hr hsl
      go_wp2
      go_ret
      exact ⟨rfl, rfl⟩

set_option maxRecDepth 100000 in
set_option maxHeartbeats 2000000 in
theorem MText2_any (s : ByteArray) (w : World) (hs : s.size ≤ 2000000) (hT : Tabs w) :
    Calls Tryz.prog 45 #[.string s] w fun e w' => e = .returned (.int .i64 (sumw (sgn s.data.toList))) ∧ Below w.heap.size w w' := by
  have c1 := Signs_any s w hs hT
  have hlen := sgn_len s
  have hrng := hid (sgn_rng s.data.toList)
  clear hT
  go_enter Tryz.func45, Tryz.ntmps45
  go_wp2_with (fail)
  refine c1.mono ?_
  rintro e w1 ⟨v, rfl, hv, hB⟩
  have c2 := Sum_any v _ w1 (by omega) hv (Hid.out hrng)
  clear c1 hv
  go_wp2_with (fail)
  refine c2.mono ?_
  rintro e w' ⟨rfl, rfl⟩
  go_wp2
  go_ret
  exact ⟨rfl, hB⟩

theorem MText_any (s : ByteArray) (w : World) (hs : s.size ≤ 1000000) (hT : Tabs w) :
    Calls Tryz.prog 45 #[.string s] w fun e w' => e = .returned (.int .i64 (sumw (sgn s.data.toList))) ∧ Below w.heap.size w w' := MText2_any s w (Nat.le_trans hs (by decide)) hT
set_option maxRecDepth 100000 in
set_option maxHeartbeats 2000000 in
theorem RMText_any (s : ByteArray) (w : World) (hs : s.size ≤ 2000000) :
    Calls Tryz.prog 60 #[.string s] w fun e w' => e = .returned (.int .i64 (sumw (sgn s.data.toList))) ∧ Below w.heap.size w w' := by
  have c1 := RSigns_any s w hs
  have hlen := sgn_len s
  have hrng := sgn_rng s.data.toList
  obtain ⟨l, hl⟩ : ∃ l, sgn s.data.toList = l := ⟨_, rfl⟩
  rw [hl] at c1 hlen hrng ⊢
  obtain ⟨d, hd⟩ : ∃ d, Lib.validD s.data.toList = d := ⟨_, rfl⟩
  rw [hd] at c1
  clear hl hd
  have hl2 : l.length ≤ 2000000 := by omega
  replace hrng := hid hrng
  go_enter Tryz.func60, Tryz.ntmps60
  go_wp2_with (fail)
  refine c1.mono ?_
  rintro e w1 ⟨v, rfl, hv, hB⟩
  clear c1
  obtain ⟨p, cap, rfl, hmx⟩ := hv.shape
  replace hv := hid hv
  have hfd : ∀ w : World, (Instr.field 111 (.agg #[.slice p l.length cap, .bool d]) 0).run Tryz.prog w = .ok (.slice p l.length cap) w := fun _ => by kernel_rfl
  go_wp2
  go_loopw [3, 5] (fun a i wr => ∃ k : Nat, k ≤ l.length ∧ a = .int .i64 (sumw (l.take k)) ∧ i = .int .i64 k ∧ wr = w1) (fun _ i _ => l.length - (RowKit.intOf i).toNat)
  case atStart => exact ⟨0, Nat.zero_le _, rfl, rfl, rfl⟩
  case round =>
    obtain ⟨k, hk, rfl, rfl, rfl⟩ := hrel
    have hbd := sumw_bd (l.take k)
    by_cases hkl : k < l.length
    · have hne : l ≠ [] := by intro h; rw [h] at hkl; simp at hkl
      obtain ⟨b, o, cap', he, h1, h2, h3⟩ := (Hid.out hv).open hne
      cases he
      have hc := rangeAt_one (h3 k l[k] (List.getElem?_eq_getElem hkl))
      simp only [Nat.mul_one] at hc
      have hnx := sumw_take hkl
      have hxr := (Hid.out hrng) l[k] (List.getElem_mem hkl)
      have hwb := width_bd l[k]
      have hcall := RSign_any l[k] wr hxr.1 hxr.2
      rw [List.length_take] at hbd
      generalize l[k] = x at *
      obtain ⟨S, hS⟩ : ∃ S, sumw (l.take k) = S := ⟨_, rfl⟩
      rw [hS] at hnx hbd ⊢
      have Hnx := hid hnx
      obtain ⟨X, hX⟩ : ∃ X, width x = X := ⟨_, rfl⟩
      rw [hX] at hcall hwb
      have HX := hid hX
      clear hnx hS hX h3 hxr
      go_wp2_with (fail)
      refine hcall.mono ?_
      rintro e w' ⟨rfl, rfl⟩
      go_wp2
      refine ⟨⟨k + 1, by omega, ?_, rfl, trivial⟩, ?_⟩
      · rw [Hid.out Hnx, Hid.out HX]
      · simp only [RowKit.intOf]; omega
    · obtain rfl : k = l.length := by omega
      rw [List.take_length] at *
      go_wp2
      go_ret
      exact ⟨rfl, hB⟩

end Go.Proofs.YtempicociampoaaGreatDoor
namespace Go.Proofs.YtempicociampoaaGreatDoor
open Go.RowKit Go.Shelf Go.Lib

theorem plain_sgn {but : Int} (hb : but ≤ 127) (l : L8) : plainB but l ↔ validD l = true ∧ ∀ x ∈ sgn l, okS but x := by
  unfold plainB
  refine and_congr_right fun hv => ?_
  obtain ⟨h1, h2⟩ := sgn_yes hv
  conv => lhs; rw [h2]
  exact clean_txt hb h1
/-- the reference's guard says what okS denies -/
theorem okS_guard {lines : Bool} {but : Int} (hbut : (lines = true ∧ but = 10) ∨ (lines = false ∧ but = 33)) (x : Int) : okS but x ↔ ¬ ((x < 32 ∧ (x ≠ 10 ∨ lines = false)) ∨ x = 127) := by
  unfold okS
  rcases hbut with ⟨rfl, rfl⟩ | ⟨rfl, rfl⟩
  · simp; omega
  · simp; omega

set_option maxRecDepth 100000 in
set_option maxHeartbeats 4000000 in
theorem rplain_any (s : ByteArray) (lines : Bool) (but : Int) (hbut : (lines = true ∧ but = 10) ∨ (lines = false ∧ but = 33)) (w : World) (hs : s.size ≤ 2000000) :
    Calls Tryz.prog 37 #[.string s, .bool lines] w fun e w' => e = .returned (.bool (decide (plainB but s.data.toList))) ∧ Below w.heap.size w w' := by
  have cR := hid (RSigns_any s w hs)
  have hpl := plain_sgn (but := but) (by rcases hbut with ⟨-, rfl⟩ | ⟨-, rfl⟩ <;> decide) s.data.toList
  have hgu := fun x => okS_guard hbut x
  have hln := sgn_len s
  have hrg := sgn_rng s.data.toList
  have hnv : validD s.data.toList = false → sgn s.data.toList = [] := sgn_no
  generalize validD s.data.toList = vd at *
  generalize sgn s.data.toList = L at *
  obtain ⟨dp, hdp⟩ : ∃ d : Bool, decide (plainB but s.data.toList) = d := ⟨_, rfl⟩
  rw [hdp]
  have hno : (∃ x ∈ L, ¬ okS but x) → dp = false := by
    rintro ⟨x, hx, hb⟩
    rw [← hdp, decide_eq_false_iff_not, hpl]
    exact fun h => hb (h.2 x hx)
  have hyes : (∀ x ∈ L, okS but x) → dp = vd := by
    intro h
    rw [← hdp, Bool.eq_iff_iff, decide_eq_true_iff, hpl]
    exact ⟨fun h => h.1, fun hv => ⟨hv, h⟩⟩
  clear hpl hdp hbut hnv
  replace hno := hid hno
  replace hyes := hid hyes
  replace hgu := hid hgu
  replace hrg := hid hrg
  go_enter Tryz.func37, Tryz.ntmps37
  go_wp2_with (fail)
  refine cR.out.mono ?_
  rintro e w1 ⟨v, rfl, sl, b1⟩
  obtain ⟨p, cap, rfl, -⟩ := sl.shape
  have hbx : (w1.alloc (.cells #[.slice p L.length cap, .bool vd] 111)).heap[w1.heap.size]? = some (.cells #[.slice p L.length cap, .bool vd] 111 (0, 0)) := World.alloc_heap_new w1 _
  obtain ⟨W2, hW2⟩ : ∃ V, w1.alloc (.cells #[.slice p L.length cap, .bool vd] 111) = V := ⟨_, rfl⟩
  rw [hW2] at hbx
  have f0 := cell_blk (i := 0) hbx rfl
  have f1 := cell_blk (i := 1) hbx rfl
  have sl2 : Sl W2 1 encI (.slice p L.length cap) L := by rw [← hW2]; exact (Kept.alloc 0 _ _).sl sl
  have B2 : Below w.heap.size w W2 := by rw [← hW2]; exact b1.alloc b1.size _
  clear cR sl
  go_wp2_with (fail)
  replace hW2 := hid hW2
  go_loopw [6, 7] (fun i _ wr => ∃ k : Nat, k ≤ L.length ∧ i = .int .i64 k ∧ (∀ x ∈ L.take k, okS but x) ∧ W2 = wr) (fun i _ _ => L.length - (RowKit.intOf i).toNat)
  case atStart => exact ⟨0, Nat.zero_le _, rfl, by simp, rfl⟩
  case round =>
    obtain ⟨k, hk, rfl, hall, rfl⟩ := hrel
    by_cases hkl : k < L.length
    · have hkI : (k : Int) < (L.length : Int) := by omega
      obtain ⟨xb, xo, cap2, he, h4, h5, hc2⟩ := sl2.open (by rintro rfl; simp at hkl)
      simp only [Value.slice.injEq] at he
      obtain ⟨rfl, -, rfl⟩ := he
      have hck := rangeAt_one (hc2 k L[k] (List.getElem?_eq_getElem hkl))
      rw [Nat.mul_one] at hck
      have hmem := List.getElem_mem hkl
      have htk : L.take (k + 1) = L.take k ++ [L[k]] := List.take_succ_eq_append_getElem hkl
      clear hc2
      generalize L[k] = x at *
      have hr := hrg.out x hmem
      by_cases hbad : okS but x
      · have hnb := (hgu.out x).1 hbad
        have hnx : ∀ y ∈ L.take (k + 1), okS but y := by
          rw [htk]
          intro y hy
          rcases List.mem_append.1 hy with h | h
          · exact hall y h
          · obtain rfl := List.mem_singleton.1 h
            exact hbad
        replace hnx := hid hnx
        replace htk := hid htk
        replace hall := hid hall
        by_cases h32 : x < 32
        · have hx10 : (x != 10) = false := by
            have : ¬ (x ≠ 10 ∨ lines = false) := fun h => hnb (.inl ⟨h32, h⟩)
            simp only [bne_eq_false_iff_eq]
            by_cases h : x = 10
            · exact h
            · exact absurd (.inl h) this
          have hln : (!lines) = false := by
            have : ¬ (x ≠ 10 ∨ lines = false) := fun h => hnb (.inl ⟨h32, h⟩)
            cases lines
            · exact absurd (.inr rfl) this
            · rfl
          have h127 : (x == 127) = false := by simp only [beq_eq_false_iff_ne, ne_eq]; omega
          replace hnb := hid hnb
          go_wp2_with (fail)
          refine ⟨⟨k + 1, by omega, by go_num, hnx.out, by trivial⟩, by simp [RowKit.intOf]; omega⟩
        · have h127 : (x == 127) = false := by
            simp only [beq_eq_false_iff_ne, ne_eq]
            exact fun h => hnb (.inr h)
          replace hnb := hid hnb
          go_wp2_with (fail)
          refine ⟨⟨k + 1, by omega, by go_num, hnx.out, by trivial⟩, by simp [RowKit.intOf]; omega⟩
      · have hdf := hno.out ⟨x, hmem, hbad⟩
        have hb : (x < 32 ∧ (x ≠ 10 ∨ lines = false)) ∨ x = 127 := by
          by_cases h : (x < 32 ∧ (x ≠ 10 ∨ lines = false)) ∨ x = 127
          · exact h
          · exact absurd ((hgu.out x).2 h) hbad
        replace hdf := hid hdf
        replace htk := hid htk
        replace hall := hid hall
        by_cases h32 : x < 32
        · have h127 : (x == 127) = false := by simp only [beq_eq_false_iff_ne, ne_eq]; omega
          have hb2 : x ≠ 10 ∨ lines = false := by
            rcases hb with h | h
            · exact h.2
            · omega
          by_cases h10 : x = 10
          · have hx10 : (x != 10) = false := by rw [h10]; rfl
            have hln : lines = false := by
              rcases hb2 with h | h
              · exact absurd h10 h
              · exact h
            subst hln
            replace h10 := hid h10
            clear hb hb2
            go_wp2_with (fail)
            go_ret
            exact ⟨by rw [hdf.out]; rfl, B2⟩
          · have hx10 : (x != 10) = true := by simpa using h10
            replace h10 := hid h10
            clear hb hb2
            go_wp2_with (fail)
            go_ret
            exact ⟨by rw [hdf.out]; rfl, B2⟩
        · have h127 : (x == 127) = true := by
            rcases hb with h | h
            · exact absurd h.1 h32
            · rw [h]; rfl
          clear hb
          go_wp2_with (fail)
          go_ret
          exact ⟨by rw [hdf.out]; rfl, B2⟩
    · obtain rfl : k = L.length := by omega
      rw [List.take_length] at hall
      have hy := hid (hyes.out hall)
      clear hall
      go_wp2_with (fail)
      go_ret
      exact ⟨by rw [hy.out]; rfl, B2⟩
end Go.Proofs.YtempicociampoaaGreatDoor
