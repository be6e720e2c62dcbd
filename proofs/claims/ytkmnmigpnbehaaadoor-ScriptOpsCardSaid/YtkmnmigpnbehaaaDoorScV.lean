/- The walk of ScriptOps (printed by gen_scv.py). -/
import Derived.Test.YtkmnmigpnbehaaaDoorScU
import Derived.Deep.QuietTactic
import Derived.Deep.DeepCutAuto
namespace Go.Proofs.YtkmnmigpnbehaaaDoor
open Go.RowKit Go.Shelf Go.Lib

theorem seven_at (P0 P1 : ByteArray) (m0 m1 : Nat) (hP0 : P0.data.toList = decDigits m0) (hP1 : P1.data.toList = decDigits m1) (h0 : m0 ≤ 65535) (h1 : m1 ≤ 65535) (k : Nat) (hk : k < 7) :
    ∃ (TB : ByteArray) (X : Op8), (#[.string ((⟨#[99, 104, 101, 99, 107, 111, 117, 116, 32]⟩ : ByteArray) ++ P0), .string (((⟨#[112, 97, 103, 101, 32]⟩ : ByteArray) ++ P0) ++ (⟨#[32]⟩ : ByteArray) ++ P1), .string ⟨#[108, 111, 103]⟩, .string (((⟨#[100, 105, 102, 102, 32]⟩ : ByteArray) ++ P0) ++ (⟨#[32]⟩ : ByteArray) ++ P1), .string ((⟨#[100, 101, 108, 101, 116, 101, 32]⟩ : ByteArray) ++ P0), .string ⟨#[99, 111, 108, 108, 101, 99, 116]⟩, .string ⟨#[115, 116, 97, 116]⟩] : Array Value)[k]? = some (.string TB) ∧ TB.size ≤ 60 ∧ (#[.int .i64 2, .int .i64 3, .int .i64 4, .int .i64 5, .int .i64 6, .int .i64 7, .int .i64 8] : Array Value)[k]? = some (.int .i64 ((k : Int) + 2)) ∧ Row7 m0 m1 k TB.data.toList X := by
  have hl : ∀ m : Nat, m ≤ 65535 → (decDigits m).length ≤ 21 := fun m hm => by
    have := Lib.itoa_length_le (m : Int) (by omega) (by omega)
    rwa [itoa_nonneg] at this
  have hz0 : P0.size ≤ 21 := by rw [← size8, hP0]; exact hl _ h0
  have hz1 : P1.size ≤ 21 := by rw [← size8, hP1]; exact hl _ h1
  obtain ⟨T, X, hT, hX, hr⟩ := rows7 m0 m1 h0 h1 k hk
  have key : ∀ TB : ByteArray, (#[.string ((⟨#[99, 104, 101, 99, 107, 111, 117, 116, 32]⟩ : ByteArray) ++ P0), .string (((⟨#[112, 97, 103, 101, 32]⟩ : ByteArray) ++ P0) ++ (⟨#[32]⟩ : ByteArray) ++ P1), .string ⟨#[108, 111, 103]⟩, .string (((⟨#[100, 105, 102, 102, 32]⟩ : ByteArray) ++ P0) ++ (⟨#[32]⟩ : ByteArray) ++ P1), .string ((⟨#[100, 101, 108, 101, 116, 101, 32]⟩ : ByteArray) ++ P0), .string ⟨#[99, 111, 108, 108, 101, 99, 116]⟩, .string ⟨#[115, 116, 97, 116]⟩] : Array Value)[k]? = some (.string TB) → TB.data.toList = T → TB.size ≤ 60 → (#[.int .i64 2, .int .i64 3, .int .i64 4, .int .i64 5, .int .i64 6, .int .i64 7, .int .i64 8] : Array Value)[k]? = some (.int .i64 ((k : Int) + 2)) → ∃ (TB : ByteArray) (X : Op8), (#[.string ((⟨#[99, 104, 101, 99, 107, 111, 117, 116, 32]⟩ : ByteArray) ++ P0), .string (((⟨#[112, 97, 103, 101, 32]⟩ : ByteArray) ++ P0) ++ (⟨#[32]⟩ : ByteArray) ++ P1), .string ⟨#[108, 111, 103]⟩, .string (((⟨#[100, 105, 102, 102, 32]⟩ : ByteArray) ++ P0) ++ (⟨#[32]⟩ : ByteArray) ++ P1), .string ((⟨#[100, 101, 108, 101, 116, 101, 32]⟩ : ByteArray) ++ P0), .string ⟨#[99, 111, 108, 108, 101, 99, 116]⟩, .string ⟨#[115, 116, 97, 116]⟩] : Array Value)[k]? = some (.string TB) ∧ TB.size ≤ 60 ∧ (#[.int .i64 2, .int .i64 3, .int .i64 4, .int .i64 5, .int .i64 6, .int .i64 7, .int .i64 8] : Array Value)[k]? = some (.int .i64 ((k : Int) + 2)) ∧ Row7 m0 m1 k TB.data.toList X :=
    fun TB h1 h2 h3 h4 => ⟨TB, X, h1, h3, h4, by rw [h2]; exact hr⟩
  clear hX hr
  match k, hk with
  | 0, _ => exact key _ rfl (by have := Option.some.inj hT; rw [← this, ByteArray.data_append, Array.toList_append, hP0]) (by rw [ByteArray.size_append]; show 9 + P0.size ≤ 60; omega) rfl
  | 1, _ => exact key _ rfl (by have := Option.some.inj hT; rw [← this, ByteArray.data_append, Array.toList_append, ByteArray.data_append, Array.toList_append, ByteArray.data_append, Array.toList_append, hP0, hP1]) (by rw [ByteArray.size_append, ByteArray.size_append, ByteArray.size_append]; show 5 + P0.size + 1 + P1.size ≤ 60; omega) rfl
  | 2, _ => exact key _ rfl (by have := Option.some.inj hT; rw [← this]) (by decide) rfl
  | 3, _ => exact key _ rfl (by have := Option.some.inj hT; rw [← this, ByteArray.data_append, Array.toList_append, ByteArray.data_append, Array.toList_append, ByteArray.data_append, Array.toList_append, hP0, hP1]) (by rw [ByteArray.size_append, ByteArray.size_append, ByteArray.size_append]; show 5 + P0.size + 1 + P1.size ≤ 60; omega) rfl
  | 4, _ => exact key _ rfl (by have := Option.some.inj hT; rw [← this, ByteArray.data_append, Array.toList_append, hP0]) (by rw [ByteArray.size_append]; show 7 + P0.size ≤ 60; omega) rfl
  | 5, _ => exact key _ rfl (by have := Option.some.inj hT; rw [← this]) (by decide) rfl
  | 6, _ => exact key _ rfl (by have := Option.some.inj hT; rw [← this]) (by decide) rfl
  | k + 7, h => omega

set_option maxRecDepth 100000 in
set_option maxHeartbeats 3000000 in
theorem ScriptOps_any (m0 m1 m2 m3 m4 m5 : Nat) (v : Value) (bl : List Int) (w : World) (hm : m0 ≤ 65535 ∧ m1 ≤ 65535 ∧ m2 ≤ 65535 ∧ m3 ≤ 65535 ∧ m4 ≤ 65535 ∧ m5 ≤ 65535) (hT : STabs w) (hsb : Sl w 1 (fun x : Int => [Value.int .u8 x]) v bl) (hb0 : ∀ x ∈ bl, 0 ≤ x ∧ x ≤ 255) :
    Calls Tryd.prog 5 #[.agg #[.int .u16 m0, .int .u16 m1, .int .u16 m2, .int .u16 m3, .int .u16 m4, .int .u16 m5], v] w fun e w' => e = .returned (.bool true) ∧ Below w.heap.size w w' := by
  obtain ⟨bb, hbl, hsl⟩ := sl_bytes hsb hb0
  clear hsb hb0 hbl
  obtain ⟨p, cap, rfl, hmx⟩ := hsl.shape
  unfold maxLen at hmx
  obtain ⟨n₀, hn₀⟩ : ∃ n, w.heap.size = n := ⟨_, rfl⟩
  have a1 := World.alloc_heap_new w (.cells #[.int .u16 m0, .int .u16 m1, .int .u16 m2, .int .u16 m3, .int .u16 m4, .int .u16 m5] 40)
  have B1 : Below w.heap.size w (w.alloc (.cells #[.int .u16 m0, .int .u16 m1, .int .u16 m2, .int .u16 m3, .int .u16 m4, .int .u16 m5] 40)) := (Below.refl _ w).alloc (Nat.le_refl _) _
  have hsl1 := (Kept.alloc 0 w (.cells #[.int .u16 m0, .int .u16 m1, .int .u16 m2, .int .u16 m3, .int .u16 m4, .int .u16 m5] 40)).sl hsl
  rw [hn₀] at a1
  have cW := hid (wakes_any _ (hT.below (id B1)))
  by_cases h3 : (300 : Int) < bb.length
  · go_enter Tryd.func5, Tryd.ntmps5
    go_wp2_with (fail)
    refine cW.out.mono ?_
    rintro e u2 ⟨rfl, d2⟩
    go_wp2_with (fail)
    go_ret
    exact ⟨rfl, B1.trans (d2.mono B1.size)⟩
  · have hb3 : bb.length ≤ 300 := by omega
    clear cW
    have hms : ∀ m ∈ [m0, m1, m2, m3, m4, m5], m ≤ 65535 := by
      intro m hx
      simp only [List.mem_cons, List.not_mem_nil, or_false] at hx
      obtain ⟨g0, g1, g2, g3, g4, g5⟩ := hm
      rcases hx with rfl | rfl | rfl | rfl | rfl | rfl <;> assumption
    have hdl : ∀ m : Nat, m ≤ 65535 → (decDigits m).length ≤ 21 := fun m hm => by
      have := Lib.itoa_length_le (m : Int) (by omega) (by omega)
      rwa [itoa_nonneg] at this
    go_enter Tryd.func5, Tryd.ntmps5
    go_wp2_with (fail)
    go_loopw [5, 6] (fun sv iv wr => ∃ (k : Nat) (S : ByteArray), k ≤ 6 ∧ iv = .int .i64 k ∧ sv = .string S ∧ S.data.toList = [112, 117, 98, 108, 105, 115, 104] ++ ([m0, m1, m2, m3, m4, m5].take k).flatMap (fun m => 32 :: decDigits m) ∧ S.size ≤ 7 + 22 * k ∧ wr.heap[n₀]? = some (.cells #[.int .u16 m0, .int .u16 m1, .int .u16 m2, .int .u16 m3, .int .u16 m4, .int .u16 m5] 40 (0, 0)) ∧ Sl wr 1 encB (.slice p bb.length cap) bb ∧ Below w.heap.size w wr) (fun _ iv _ => 6 - (RowKit.intOf iv).toNat)
    case atStart => exact ⟨0, ⟨#[112, 117, 98, 108, 105, 115, 104]⟩, Nat.zero_le _, rfl, rfl, rfl, by decide, a1, hsl1, B1⟩
    case round =>
      obtain ⟨k, S, hk, rfl, rfl, hS, hSz, hN, hs, hB⟩ := hrel
      clear a1 B1 hsl1
      by_cases hk6 : k < 6
      · have hkI : (k : Int) < 6 := by omega
        obtain ⟨m, hmk⟩ : ∃ m, [m0, m1, m2, m3, m4, m5][k]? = some m := ⟨_, List.getElem?_eq_getElem (show k < [m0, m1, m2, m3, m4, m5].length from hk6)⟩
        have hm5 := hms m (List.mem_of_getElem? hmk)
        have hc : wr.cell? ⟨n₀, k, none⟩ = some (.int .u16 m) := cell_blk (i := k) hN (by
          have e : (#[Value.int .u16 (m0 : Int), .int .u16 (m1 : Int), .int .u16 (m2 : Int), .int .u16 (m3 : Int), .int .u16 (m4 : Int), .int .u16 (m5 : Int)] : Array Value) = (([m0, m1, m2, m3, m4, m5].map fun m : Nat => Value.int .u16 (m : Int)).toArray) := rfl
          rw [e, List.getElem?_toArray, List.getElem?_map, hmk]; rfl)
        have hw : IntKind.i64.wrap (m : Int) = (m : Int) := by rw [IntKind.wrap_i64]; omega
        have htk : [m0, m1, m2, m3, m4, m5].take (k + 1) = [m0, m1, m2, m3, m4, m5].take k ++ [m] := by rw [List.take_add_one, hmk]; rfl
        have cD := hid (Dec_any m (by omega) wr)
        have hDl := hdl m hm5
        obtain ⟨D, hD⟩ : ∃ b : ByteArray, (⟨(decDigits m).toArray⟩ : ByteArray) = b := ⟨_, rfl⟩
        have hDd : D.data.toList = decDigits m := by rw [← hD]
        have hDz : D.size ≤ 21 := by rw [← size8, hDd]; exact hDl
        rw [hD] at cD
        have e1 : ((⟨#[32]⟩ : ByteArray) ++ D).size = 1 + D.size := ByteArray.size_append
        have e2 : (S ++ ((⟨#[32]⟩ : ByteArray) ++ D)).size = S.size + ((⟨#[32]⟩ : ByteArray) ++ D).size := ByteArray.size_append
        have e3 : (S ++ ((⟨#[32]⟩ : ByteArray) ++ D)).data.toList = [112, 117, 98, 108, 105, 115, 104] ++ ([m0, m1, m2, m3, m4, m5].take (k + 1)).flatMap (fun m => 32 :: decDigits m) := by
          rw [ByteArray.data_append, Array.toList_append, hS, ByteArray.data_append, Array.toList_append, hDd, htk, List.flatMap_append]
          simp
        have hSI : (S.size : Int) ≤ 139 := by omega
        have hDI : (D.size : Int) ≤ 21 := by omega
        replace e3 := hid e3
        replace hS := hid hS
        replace hD := hid hD
        replace hDd := hid hDd
        replace htk := hid htk
        replace hmk := hid hmk
        go_wp2_with (fail)
        refine cD.out.mono ?_
        rintro e w2 ⟨rfl, b2⟩
        have k2 := Kept.of_below b2 0
        have hN2 := k2.same _ _ hN (.inl rfl)
        have hs2 := k2.sl hs
        have hB2 := hB.trans (b2.mono hB.size)
        clear cD k2 hN hs hB b2
        go_wp2_with (fail)
        refine ⟨⟨k + 1, _, by omega, by go_num, rfl, e3.out, by omega, hN2, hs2, hB2⟩, by simp [RowKit.intOf]; omega⟩
      · obtain rfl : k = 6 := by omega
        have hcv := conv_bytes hs
        obtain ⟨B, hBB⟩ : ∃ b : ByteArray, (⟨bb.toArray⟩ : ByteArray) = b := ⟨_, rfl⟩
        have hBd : B.data.toList = bb := by rw [← hBB]
        have hBz : B.size = bb.length := by rw [← size8, hBd]
        rw [hBB] at hcv
        have cH := hid (rHex_any B wr (by omega))
        have hHl : (hexS B.data.toList).length ≤ 601 := by
          by_cases e : B.data.toList = []
          · rw [e]; decide
          · rw [hex_len _ e, hBd]; omega
        obtain ⟨H, hH⟩ : ∃ b : ByteArray, (⟨(hexS B.data.toList).toArray⟩ : ByteArray) = b := ⟨_, rfl⟩
        have hHd : H.data.toList = hexS bb := by rw [← hH, ← hBd]
        have hHz : H.size ≤ 601 := by
          rw [← size8, hHd, ← hBd]; exact hHl
        rw [hH] at cH
        have e1 : (S ++ (⟨#[32]⟩ : ByteArray)).size = S.size + 1 := ByteArray.size_append
        have e2 : ((S ++ (⟨#[32]⟩ : ByteArray)) ++ H).size = (S ++ (⟨#[32]⟩ : ByteArray)).size + H.size := ByteArray.size_append
        have hop : op8 ⟨1, m0, 0, 0, B, m1, m2, m3, m4, m5⟩ = ⟨1, m0, 0, 0, bb, m1, m2, m3, m4, m5⟩ := by unfold op8; dsimp only; rw [hBd]
        have e3 : ((S ++ (⟨#[32]⟩ : ByteArray)) ++ H).data.toList = spellS pubF (op8 ⟨1, m0, 0, 0, B, m1, m2, m3, m4, m5⟩) := by
          rw [ByteArray.data_append, Array.toList_append, ByteArray.data_append, Array.toList_append, hS, hHd, hop]
          exact pub_text m0 m1 m2 m3 m4 m5 bb
        have hln := pub_line (op8 ⟨1, m0, 0, 0, B, m1, m2, m3, m4, m5⟩) rfl (by
          intro c hc
          obtain ⟨g0, g1, g2, g3, g4, g5⟩ := hm
          rcases lets_cases hc with rfl | rfl | rfl | rfl | rfl | rfl | rfl | rfl <;> simp [op8, getF] <;> omega) rfl rfl
        rw [← e3, show (op8 ⟨1, m0, 0, 0, B, m1, m2, m3, m4, m5⟩).src.length = bb.length from congrArg List.length hBd] at hln
        have hw0 : IntKind.i64.wrap (m0 : Int) = (m0 : Int) := by rw [IntKind.wrap_i64]; omega
        have hw1 : IntKind.i64.wrap (m1 : Int) = (m1 : Int) := by rw [IntKind.wrap_i64]; omega
        have hw2 : IntKind.i64.wrap (m2 : Int) = (m2 : Int) := by rw [IntKind.wrap_i64]; omega
        have hw3 : IntKind.i64.wrap (m3 : Int) = (m3 : Int) := by rw [IntKind.wrap_i64]; omega
        have hw4 : IntKind.i64.wrap (m4 : Int) = (m4 : Int) := by rw [IntKind.wrap_i64]; omega
        have hw5 : IntKind.i64.wrap (m5 : Int) = (m5 : Int) := by rw [IntKind.wrap_i64]; omega
        have cD0 := fun W => hid (Dec_any m0 (by omega) W)
        have cD1 := fun W => hid (Dec_any m1 (by omega) W)
        obtain ⟨P0, hP0⟩ : ∃ b : ByteArray, (⟨(decDigits m0).toArray⟩ : ByteArray) = b := ⟨_, rfl⟩
        obtain ⟨P1, hP1⟩ : ∃ b : ByteArray, (⟨(decDigits m1).toArray⟩ : ByteArray) = b := ⟨_, rfl⟩
        simp only [hP0] at cD0
        simp only [hP1] at cD1
        replace hP0 : P0.data.toList = decDigits m0 := by rw [← hP0]
        replace hP1 : P1.data.toList = decDigits m1 := by rw [← hP1]
        have z0 : P0.size ≤ 21 := by rw [← size8, hP0]; exact hdl _ hm.1
        have z1 : P1.size ≤ 21 := by rw [← size8, hP1]; exact hdl _ hm.2.1
        have z0I : (P0.size : Int) ≤ 21 := by omega
        have z1I : (P1.size : Int) ≤ 21 := by omega
        have s1 : ((⟨#[99, 104, 101, 99, 107, 111, 117, 116, 32]⟩ : ByteArray) ++ P0).size = 9 + P0.size := ByteArray.size_append
        have s2 : ((⟨#[112, 97, 103, 101, 32]⟩ : ByteArray) ++ P0).size = 5 + P0.size := ByteArray.size_append
        have s3 : (((⟨#[112, 97, 103, 101, 32]⟩ : ByteArray) ++ P0) ++ (⟨#[32]⟩ : ByteArray)).size = ((⟨#[112, 97, 103, 101, 32]⟩ : ByteArray) ++ P0).size + 1 := ByteArray.size_append
        have s4 : ((((⟨#[112, 97, 103, 101, 32]⟩ : ByteArray) ++ P0) ++ (⟨#[32]⟩ : ByteArray)) ++ P1).size = (((⟨#[112, 97, 103, 101, 32]⟩ : ByteArray) ++ P0) ++ (⟨#[32]⟩ : ByteArray)).size + P1.size := ByteArray.size_append
        have s5 : ((⟨#[100, 105, 102, 102, 32]⟩ : ByteArray) ++ P0).size = 5 + P0.size := ByteArray.size_append
        have s6 : (((⟨#[100, 105, 102, 102, 32]⟩ : ByteArray) ++ P0) ++ (⟨#[32]⟩ : ByteArray)).size = ((⟨#[100, 105, 102, 102, 32]⟩ : ByteArray) ++ P0).size + 1 := ByteArray.size_append
        have s7 : ((((⟨#[100, 105, 102, 102, 32]⟩ : ByteArray) ++ P0) ++ (⟨#[32]⟩ : ByteArray)) ++ P1).size = (((⟨#[100, 105, 102, 102, 32]⟩ : ByteArray) ++ P0) ++ (⟨#[32]⟩ : ByteArray)).size + P1.size := ByteArray.size_append
        have s8 : ((⟨#[100, 101, 108, 101, 116, 101, 32]⟩ : ByteArray) ++ P0).size = 7 + P0.size := ByteArray.size_append
        have hSI : (S.size : Int) ≤ 139 := by omega
        have hHI : (H.size : Int) ≤ 601 := by omega
        replace hS := hid hS
        replace hBB := hid hBB
        replace hBd := hid hBd
        replace hH := hid hH
        replace hHd := hid hHd
        replace hop := hid hop
        replace e3 := hid e3
        replace hP0 := hid hP0
        replace hP1 := hid hP1
        go_wp2_with (fail)
        refine cH.out.mono ?_
        rintro e w2 ⟨rfl, b2⟩
        have hB2 := hB.trans (b2.mono hB.size)
        have hN2 := (Kept.of_below b2 0).same _ _ hN (.inl rfl)
        have hs2 := (Kept.of_below b2 0).sl hs
        clear cH hcv hN hs hB b2
        obtain ⟨y, n, hy⟩ : ∃ (y : OpB) (n : Int), (bb.length ≤ 240 ∧ y = ⟨1, m0, 0, 0, B, m1, m2, m3, m4, m5⟩ ∧ n = 0) ∨ (¬ bb.length ≤ 240 ∧ y = zOp ∧ n = 11) := by
          by_cases h : bb.length ≤ 240
          · exact ⟨_, _, .inl ⟨h, rfl, rfl⟩⟩
          · exact ⟨_, _, .inr ⟨h, rfl, rfl⟩⟩
        have cL := hid (Line_val ((S ++ (⟨#[32]⟩ : ByteArray)) ++ H) w2 (by omega) (hT.below hB2) y n (by
          rcases hy with ⟨h, rfl, rfl⟩ | ⟨h, rfl, rfl⟩
          · exact .inl ⟨by rw [hln, if_pos h], rfl⟩
          · exact .inr ⟨by rw [hln, if_neg h], rfl, rfl⟩))
        unfold opV opC at cL
        obtain ⟨b9, hb9⟩ : ∃ b : Bool, (n == 0) = b := ⟨_, rfl⟩
        have hc9 : decide ((bb.length : Int) ≤ 240) = b9 := by
          rw [← hb9]
          rcases hy with ⟨h, rfl, rfl⟩ | ⟨h, rfl, rfl⟩
          · simp; omega
          · simp; omega
        replace hln := hid hln
        replace hy := hid hy
        go_wp2_with (fail)
        refine cL.out.mono ?_
        rintro e w3 ⟨rfl, b3⟩
        have hBV := (hB2.trans (b3.mono hB2.size)).alloc (hB2.trans (b3.mono hB2.size)).size (.cells #[.int .i64 y.k, .int .i64 y.r, .int .i64 y.o, .int .i64 y.n, .string y.s, .int .i64 y.w, .int .i64 y.h, .int .i64 y.t, .int .i64 y.c, .int .i64 y.i] 25)
        have hN := (Kept.alloc 0 w3 (.cells #[.int .i64 y.k, .int .i64 y.r, .int .i64 y.o, .int .i64 y.n, .string y.s, .int .i64 y.w, .int .i64 y.h, .int .i64 y.t, .int .i64 y.c, .int .i64 y.i] 25)).same _ _ ((Kept.of_below b3 0).same _ _ hN2 (.inl rfl)) (.inl rfl)
        have hs3 := (Kept.alloc 0 w3 (.cells #[.int .i64 y.k, .int .i64 y.r, .int .i64 y.o, .int .i64 y.n, .string y.s, .int .i64 y.w, .int .i64 y.h, .int .i64 y.t, .int .i64 y.c, .int .i64 y.i] 25)).sl ((Kept.of_below b3 0).sl hs2)
        have ry := World.alloc_heap_new w3 (.cells #[.int .i64 y.k, .int .i64 y.r, .int .i64 y.o, .int .i64 y.n, .string y.s, .int .i64 y.w, .int .i64 y.h, .int .i64 y.t, .int .i64 y.c, .int .i64 y.i] 25)
        have hss := hid (And.intro s1 (And.intro s2 (And.intro s3 (And.intro s4 (And.intro s5 (And.intro s6 (And.intro s7 s8)))))))
        clear cL b3 hB2 hN2 hs2 s1 s2 s3 s4 s5 s6 s7 s8 e1 e2
        replace hP0 := hP0.out
        replace hP1 := hP1.out
        go_upto_region 11 with (fail)
        go_cut [102] (fun c wx => c = .bool false ∧ wx.heap[n₀]? = some (.cells #[.int .u16 m0, .int .u16 m1, .int .u16 m2, .int .u16 m3, .int .u16 m4, .int .u16 m5] 40 (0, 0)) ∧ Below w.heap.size w wx)
        case first => as_aux_lemma =>
          have hcv := conv_bytes hs3
          rw [hBB.out] at hcv
          have hy2 := hy.out
          clear hss cD0 cD1 hP0 hP1 z0 z1 z0I z1I hSI hHI hT hms hdl hHl hHz hSz
          rcases hy2 with ⟨h, rfl, rfl⟩ | ⟨h, rfl, rfl⟩
          · obtain rfl : b9 = true := by rw [← hb9]; rfl
            dsimp only at ry hcv hN hBV ⊢
            clear hb9 hc9
            have x0 : (w3.alloc (.cells #[.int .i64 1, .int .i64 m0, .int .i64 0, .int .i64 0, .string B, .int .i64 m1, .int .i64 m2, .int .i64 m3, .int .i64 m4, .int .i64 m5] 25)).cell? ⟨w3.heap.size, 0, none⟩ = some (.int .i64 1) := cell_blk (i := 0) ry rfl
            have x1 : (w3.alloc (.cells #[.int .i64 1, .int .i64 m0, .int .i64 0, .int .i64 0, .string B, .int .i64 m1, .int .i64 m2, .int .i64 m3, .int .i64 m4, .int .i64 m5] 25)).cell? ⟨w3.heap.size, 1, none⟩ = some (.int .i64 m0) := cell_blk (i := 1) ry rfl
            have x2 : (w3.alloc (.cells #[.int .i64 1, .int .i64 m0, .int .i64 0, .int .i64 0, .string B, .int .i64 m1, .int .i64 m2, .int .i64 m3, .int .i64 m4, .int .i64 m5] 25)).cell? ⟨w3.heap.size, 2, none⟩ = some (.int .i64 0) := cell_blk (i := 2) ry rfl
            have x3 : (w3.alloc (.cells #[.int .i64 1, .int .i64 m0, .int .i64 0, .int .i64 0, .string B, .int .i64 m1, .int .i64 m2, .int .i64 m3, .int .i64 m4, .int .i64 m5] 25)).cell? ⟨w3.heap.size, 3, none⟩ = some (.int .i64 0) := cell_blk (i := 3) ry rfl
            have x4 : (w3.alloc (.cells #[.int .i64 1, .int .i64 m0, .int .i64 0, .int .i64 0, .string B, .int .i64 m1, .int .i64 m2, .int .i64 m3, .int .i64 m4, .int .i64 m5] 25)).cell? ⟨w3.heap.size, 4, none⟩ = some (.string B) := cell_blk (i := 4) ry rfl
            have x5 : (w3.alloc (.cells #[.int .i64 1, .int .i64 m0, .int .i64 0, .int .i64 0, .string B, .int .i64 m1, .int .i64 m2, .int .i64 m3, .int .i64 m4, .int .i64 m5] 25)).cell? ⟨w3.heap.size, 5, none⟩ = some (.int .i64 m1) := cell_blk (i := 5) ry rfl
            have x6 : (w3.alloc (.cells #[.int .i64 1, .int .i64 m0, .int .i64 0, .int .i64 0, .string B, .int .i64 m1, .int .i64 m2, .int .i64 m3, .int .i64 m4, .int .i64 m5] 25)).cell? ⟨w3.heap.size, 6, none⟩ = some (.int .i64 m2) := cell_blk (i := 6) ry rfl
            have x7 : (w3.alloc (.cells #[.int .i64 1, .int .i64 m0, .int .i64 0, .int .i64 0, .string B, .int .i64 m1, .int .i64 m2, .int .i64 m3, .int .i64 m4, .int .i64 m5] 25)).cell? ⟨w3.heap.size, 7, none⟩ = some (.int .i64 m3) := cell_blk (i := 7) ry rfl
            have x8 : (w3.alloc (.cells #[.int .i64 1, .int .i64 m0, .int .i64 0, .int .i64 0, .string B, .int .i64 m1, .int .i64 m2, .int .i64 m3, .int .i64 m4, .int .i64 m5] 25)).cell? ⟨w3.heap.size, 8, none⟩ = some (.int .i64 m4) := cell_blk (i := 8) ry rfl
            have x9 : (w3.alloc (.cells #[.int .i64 1, .int .i64 m0, .int .i64 0, .int .i64 0, .string B, .int .i64 m1, .int .i64 m2, .int .i64 m3, .int .i64 m4, .int .i64 m5] 25)).cell? ⟨w3.heap.size, 9, none⟩ = some (.int .i64 m5) := cell_blk (i := 9) ry rfl
            have n0 : (w3.alloc (.cells #[.int .i64 1, .int .i64 m0, .int .i64 0, .int .i64 0, .string B, .int .i64 m1, .int .i64 m2, .int .i64 m3, .int .i64 m4, .int .i64 m5] 25)).cell? ⟨n₀, 0, none⟩ = some (.int .u16 m0) := cell_blk (i := 0) hN rfl
            have n1 : (w3.alloc (.cells #[.int .i64 1, .int .i64 m0, .int .i64 0, .int .i64 0, .string B, .int .i64 m1, .int .i64 m2, .int .i64 m3, .int .i64 m4, .int .i64 m5] 25)).cell? ⟨n₀, 1, none⟩ = some (.int .u16 m1) := cell_blk (i := 1) hN rfl
            have n2 : (w3.alloc (.cells #[.int .i64 1, .int .i64 m0, .int .i64 0, .int .i64 0, .string B, .int .i64 m1, .int .i64 m2, .int .i64 m3, .int .i64 m4, .int .i64 m5] 25)).cell? ⟨n₀, 2, none⟩ = some (.int .u16 m2) := cell_blk (i := 2) hN rfl
            have n3 : (w3.alloc (.cells #[.int .i64 1, .int .i64 m0, .int .i64 0, .int .i64 0, .string B, .int .i64 m1, .int .i64 m2, .int .i64 m3, .int .i64 m4, .int .i64 m5] 25)).cell? ⟨n₀, 3, none⟩ = some (.int .u16 m3) := cell_blk (i := 3) hN rfl
            have n4 : (w3.alloc (.cells #[.int .i64 1, .int .i64 m0, .int .i64 0, .int .i64 0, .string B, .int .i64 m1, .int .i64 m2, .int .i64 m3, .int .i64 m4, .int .i64 m5] 25)).cell? ⟨n₀, 4, none⟩ = some (.int .u16 m4) := cell_blk (i := 4) hN rfl
            have n5 : (w3.alloc (.cells #[.int .i64 1, .int .i64 m0, .int .i64 0, .int .i64 0, .string B, .int .i64 m1, .int .i64 m2, .int .i64 m3, .int .i64 m4, .int .i64 m5] 25)).cell? ⟨n₀, 5, none⟩ = some (.int .u16 m5) := cell_blk (i := 5) hN rfl
            go_wp2_with (fail)
            go_meet
            case rel => exact ⟨rfl, hN, hBV⟩
          · obtain rfl : b9 = false := by rw [← hb9]; rfl
            clear hb9 hc9 hcv
            go_wp2_with (fail)
            go_meet
            case rel => exact ⟨rfl, hN, hBV⟩
        case rest =>
          obtain ⟨rfl, hN9, hB9⟩ := hcut
          clear hN hBV hs3 ry hb9 hc9 hw2 hw3 hw4 hw5
          have hN := hN9
          have hBV := hB9
          have hd0 : wc.drew.cell? ⟨n₀, 0, none⟩ = some (.int .u16 m0) := cell_blk (i := 0) (show wc.drew.heap[n₀]? = _ from hN) rfl
          have hd1 : wc.drew.cell? ⟨n₀, 1, none⟩ = some (.int .u16 m1) := cell_blk (i := 1) (show wc.drew.heap[n₀]? = _ from hN) rfl
          go_upto_region 13 with (fail)
          go_cut [9, 10] (fun pv qv wc => pv = .string P0 ∧ qv = .string P1 ∧ wc.heap[n₀]? = some (.cells #[.int .u16 m0, .int .u16 m1, .int .u16 m2, .int .u16 m3, .int .u16 m4, .int .u16 m5] 40 (0, 0)) ∧ Below w.heap.size w wc)
          case first => as_aux_lemma =>
            refine wp_region_any (by kernel_rfl) ?_
            try (change wpAny _ _ _ _ _ _ _ (World.drew _))
            refine wpAny_take (i := 0) (oi := ⟨some 103, _, _, _, _, _⟩) (v := ?_) rfl (by kernel_rfl) (by kernel_rfl) (by kernel_rfl) (fun _ _ _ h => h) (Or.inl ⟨by rfl, ?_⟩) ?_
            rotate_left
            · intro w; go_simp <;> with_reducible rfl
            simp only [Act.put, List.setIfInBounds_toArray, List.set_cons_zero, List.set_cons_succ]
            refine wpAny_take (i := 4) (oi := ⟨some 107, _, _, _, _, _⟩) (v := ?_) rfl (by kernel_rfl) (by kernel_rfl) (by kernel_rfl) (fun _ _ _ h => h) (Or.inl ⟨by rfl, ?_⟩) ?_
            rotate_left
            · intro w; go_simp <;> with_reducible rfl
            simp only [Act.put, List.setIfInBounds_toArray, List.set_cons_zero, List.set_cons_succ]
            refine wpAny_ready (rs := [1, 5]) (by kernel_rfl) (by simp) ?_
            refine AllReady.cons rfl (fun K hK => ?_) ?_
            · go_simp
              first | refine hK _ _ ?_ | refine ⟨trivial, hK _ _ ?_⟩ | refine ⟨fun _ _ => trivial, hK _ _ ?_⟩
              clear hK K
              refine wpAny_take (i := 2) (oi := ⟨some 105, _, _, _, _, _⟩) (v := ?_) rfl (by kernel_rfl) (by kernel_rfl) (by kernel_rfl) (fun _ _ _ h => h) (Or.inl ⟨by rfl, ?_⟩) ?_
              rotate_left
              · intro w; go_simp <;> with_reducible rfl
              simp only [Act.put, List.setIfInBounds_toArray, List.set_cons_zero, List.set_cons_succ]
              refine wpAny_ready (rs := [3, 5]) (by kernel_rfl) (by simp) ?_
              refine AllReady.cons rfl (fun K hK => ?_) ?_
              · go_simp
                refine (cD0 _).out.mono ?_
                rintro e Va ⟨rfl, bba⟩
                have hNa := (Kept.of_below bba 0).same _ _ (show wc.drew.heap[n₀]? = _ from hN) (.inl rfl)
                have hBa := (hBV.drewN 1).trans (bba.mono (hBV.drewN 1).size)
                have na1 : Va.cell? ⟨n₀, 1, none⟩ = some (.int .u16 m1) := cell_blk (i := 1) hNa rfl
                first | refine hK _ _ ?_ | refine ⟨trivial, hK _ _ ?_⟩ | refine ⟨fun _ _ => trivial, hK _ _ ?_⟩
                clear hK K
                refine wpAny_ready (rs := [5]) (by kernel_rfl) (by simp) ?_
                refine AllReady.cons rfl (fun K hK => ?_) AllReady.nil
                go_simp
                first | refine hK _ _ ?_ | refine ⟨trivial, hK _ _ ?_⟩ | refine ⟨fun _ _ => trivial, hK _ _ ?_⟩
                clear hK K
                refine wpAny_take (i := 6) (oi := ⟨some 109, _, _, _, _, _⟩) (v := ?_) rfl (by kernel_rfl) (by kernel_rfl) (by kernel_rfl) (fun _ _ _ h => h) (Or.inl ⟨by rfl, ?_⟩) ?_
                rotate_left
                · intro w; go_simp <;> with_reducible rfl
                simp only [Act.put, List.setIfInBounds_toArray, List.set_cons_zero, List.set_cons_succ]
                refine wpAny_ready (rs := [7]) (by kernel_rfl) (by simp) ?_
                refine AllReady.cons rfl (fun K hK => ?_) AllReady.nil
                go_simp
                refine (cD1 _).out.mono ?_
                rintro e Vb ⟨rfl, bbb⟩
                have hNb := (Kept.of_below bbb 0).same _ _ (show Va.heap[n₀]? = _ from hNa) (.inl rfl)
                have hBb := hBa.trans (bbb.mono hBa.size)
                have nb1 : Vb.cell? ⟨n₀, 1, none⟩ = some (.int .u16 m1) := cell_blk (i := 1) hNb rfl
                first | refine hK _ _ ?_ | refine ⟨trivial, hK _ _ ?_⟩ | refine ⟨fun _ _ => trivial, hK _ _ ?_⟩
                clear hK K
                refine wpAny_take (i := 8) (oi := ⟨some 9, _, _, _, _, _⟩) (v := ?_) rfl (by kernel_rfl) (by kernel_rfl) (by kernel_rfl) (fun _ _ _ h => h) (Or.inl ⟨by rfl, ?_⟩) ?_
                rotate_left
                · intro w; go_simp <;> with_reducible rfl
                simp only [Act.put, List.setIfInBounds_toArray, List.set_cons_zero, List.set_cons_succ]
                refine wpAny_take (i := 9) (oi := ⟨some 10, _, _, _, _, _⟩) (v := ?_) rfl (by kernel_rfl) (by kernel_rfl) (by kernel_rfl) (fun _ _ _ h => h) (Or.inl ⟨by rfl, ?_⟩) ?_
                rotate_left
                · intro w; go_simp <;> with_reducible rfl
                simp only [Act.put, List.setIfInBounds_toArray, List.set_cons_zero, List.set_cons_succ]
                refine wpAny_done (by kernel_rfl) ?_ _
                go_wp2_with (fail)
                go_meet
                case rel => exact ⟨rfl, rfl, hNb, hBb⟩
              refine AllReady.cons rfl (fun K hK => ?_) AllReady.nil
              go_simp
              first | refine hK _ _ ?_ | refine ⟨trivial, hK _ _ ?_⟩ | refine ⟨fun _ _ => trivial, hK _ _ ?_⟩
              clear hK K
              refine wpAny_take (i := 6) (oi := ⟨some 109, _, _, _, _, _⟩) (v := ?_) rfl (by kernel_rfl) (by kernel_rfl) (by kernel_rfl) (fun _ _ _ h => h) (Or.inl ⟨by rfl, ?_⟩) ?_
              rotate_left
              · intro w; go_simp <;> with_reducible rfl
              simp only [Act.put, List.setIfInBounds_toArray, List.set_cons_zero, List.set_cons_succ]
              refine wpAny_ready (rs := [3]) (by kernel_rfl) (by simp) ?_
              refine AllReady.cons rfl (fun K hK => ?_) AllReady.nil
              go_simp
              refine (cD0 _).out.mono ?_
              rintro e Va ⟨rfl, bba⟩
              have hNa := (Kept.of_below bba 0).same _ _ (show wc.drew.heap[n₀]? = _ from hN) (.inl rfl)
              have hBa := (hBV.drewN 1).trans (bba.mono (hBV.drewN 1).size)
              have na1 : Va.cell? ⟨n₀, 1, none⟩ = some (.int .u16 m1) := cell_blk (i := 1) hNa rfl
              first | refine hK _ _ ?_ | refine ⟨trivial, hK _ _ ?_⟩ | refine ⟨fun _ _ => trivial, hK _ _ ?_⟩
              clear hK K
              refine wpAny_ready (rs := [7]) (by kernel_rfl) (by simp) ?_
              refine AllReady.cons rfl (fun K hK => ?_) AllReady.nil
              go_simp
              refine (cD1 _).out.mono ?_
              rintro e Vb ⟨rfl, bbb⟩
              have hNb := (Kept.of_below bbb 0).same _ _ (show Va.heap[n₀]? = _ from hNa) (.inl rfl)
              have hBb := hBa.trans (bbb.mono hBa.size)
              have nb1 : Vb.cell? ⟨n₀, 1, none⟩ = some (.int .u16 m1) := cell_blk (i := 1) hNb rfl
              first | refine hK _ _ ?_ | refine ⟨trivial, hK _ _ ?_⟩ | refine ⟨fun _ _ => trivial, hK _ _ ?_⟩
              clear hK K
              refine wpAny_take (i := 8) (oi := ⟨some 9, _, _, _, _, _⟩) (v := ?_) rfl (by kernel_rfl) (by kernel_rfl) (by kernel_rfl) (fun _ _ _ h => h) (Or.inl ⟨by rfl, ?_⟩) ?_
              rotate_left
              · intro w; go_simp <;> with_reducible rfl
              simp only [Act.put, List.setIfInBounds_toArray, List.set_cons_zero, List.set_cons_succ]
              refine wpAny_take (i := 9) (oi := ⟨some 10, _, _, _, _, _⟩) (v := ?_) rfl (by kernel_rfl) (by kernel_rfl) (by kernel_rfl) (fun _ _ _ h => h) (Or.inl ⟨by rfl, ?_⟩) ?_
              rotate_left
              · intro w; go_simp <;> with_reducible rfl
              simp only [Act.put, List.setIfInBounds_toArray, List.set_cons_zero, List.set_cons_succ]
              refine wpAny_done (by kernel_rfl) ?_ _
              go_wp2_with (fail)
              go_meet
              case rel => exact ⟨rfl, rfl, hNb, hBb⟩
            refine AllReady.cons rfl (fun K hK => ?_) AllReady.nil
            go_simp
            first | refine hK _ _ ?_ | refine ⟨trivial, hK _ _ ?_⟩ | refine ⟨fun _ _ => trivial, hK _ _ ?_⟩
            clear hK K
            refine wpAny_take (i := 6) (oi := ⟨some 109, _, _, _, _, _⟩) (v := ?_) rfl (by kernel_rfl) (by kernel_rfl) (by kernel_rfl) (fun _ _ _ h => h) (Or.inl ⟨by rfl, ?_⟩) ?_
            rotate_left
            · intro w; go_simp <;> with_reducible rfl
            simp only [Act.put, List.setIfInBounds_toArray, List.set_cons_zero, List.set_cons_succ]
            refine wpAny_ready (rs := [1]) (by kernel_rfl) (by simp) ?_
            refine AllReady.cons rfl (fun K hK => ?_) AllReady.nil
            go_simp
            first | refine hK _ _ ?_ | refine ⟨trivial, hK _ _ ?_⟩ | refine ⟨fun _ _ => trivial, hK _ _ ?_⟩
            clear hK K
            refine wpAny_take (i := 2) (oi := ⟨some 105, _, _, _, _, _⟩) (v := ?_) rfl (by kernel_rfl) (by kernel_rfl) (by kernel_rfl) (fun _ _ _ h => h) (Or.inl ⟨by rfl, ?_⟩) ?_
            rotate_left
            · intro w; go_simp <;> with_reducible rfl
            simp only [Act.put, List.setIfInBounds_toArray, List.set_cons_zero, List.set_cons_succ]
            refine wpAny_ready (rs := [3]) (by kernel_rfl) (by simp) ?_
            refine AllReady.cons rfl (fun K hK => ?_) AllReady.nil
            go_simp
            refine (cD0 _).out.mono ?_
            rintro e Va ⟨rfl, bba⟩
            have hNa := (Kept.of_below bba 0).same _ _ (show wc.drew.heap[n₀]? = _ from hN) (.inl rfl)
            have hBa := (hBV.drewN 1).trans (bba.mono (hBV.drewN 1).size)
            have na1 : Va.cell? ⟨n₀, 1, none⟩ = some (.int .u16 m1) := cell_blk (i := 1) hNa rfl
            first | refine hK _ _ ?_ | refine ⟨trivial, hK _ _ ?_⟩ | refine ⟨fun _ _ => trivial, hK _ _ ?_⟩
            clear hK K
            refine wpAny_ready (rs := [7]) (by kernel_rfl) (by simp) ?_
            refine AllReady.cons rfl (fun K hK => ?_) AllReady.nil
            go_simp
            refine (cD1 _).out.mono ?_
            rintro e Vb ⟨rfl, bbb⟩
            have hNb := (Kept.of_below bbb 0).same _ _ (show Va.heap[n₀]? = _ from hNa) (.inl rfl)
            have hBb := hBa.trans (bbb.mono hBa.size)
            have nb1 : Vb.cell? ⟨n₀, 1, none⟩ = some (.int .u16 m1) := cell_blk (i := 1) hNb rfl
            first | refine hK _ _ ?_ | refine ⟨trivial, hK _ _ ?_⟩ | refine ⟨fun _ _ => trivial, hK _ _ ?_⟩
            clear hK K
            refine wpAny_take (i := 8) (oi := ⟨some 9, _, _, _, _, _⟩) (v := ?_) rfl (by kernel_rfl) (by kernel_rfl) (by kernel_rfl) (fun _ _ _ h => h) (Or.inl ⟨by rfl, ?_⟩) ?_
            rotate_left
            · intro w; go_simp <;> with_reducible rfl
            simp only [Act.put, List.setIfInBounds_toArray, List.set_cons_zero, List.set_cons_succ]
            refine wpAny_take (i := 9) (oi := ⟨some 10, _, _, _, _, _⟩) (v := ?_) rfl (by kernel_rfl) (by kernel_rfl) (by kernel_rfl) (fun _ _ _ h => h) (Or.inl ⟨by rfl, ?_⟩) ?_
            rotate_left
            · intro w; go_simp <;> with_reducible rfl
            simp only [Act.put, List.setIfInBounds_toArray, List.set_cons_zero, List.set_cons_succ]
            refine wpAny_done (by kernel_rfl) ?_ _
            go_wp2_with (fail)
            go_meet
            case rel => exact ⟨rfl, rfl, hNb, hBb⟩
          case rest =>
            obtain ⟨rfl, rfl, hNx, hBx⟩ := hcut
            obtain ⟨s1, s2, s3, s4, s5, s6, s7, s8⟩ := hss.out
            clear cD0 cD1 hN hBV hd0 hd1
            have hzx := hBx.size
            have hNlt := (Array.getElem?_eq_some_iff.1 hNx).1
            have g1 := World.alloc_heap_new wc (.cells #[.string ((⟨#[99, 104, 101, 99, 107, 111, 117, 116, 32]⟩ : ByteArray) ++ P0), .string (((⟨#[112, 97, 103, 101, 32]⟩ : ByteArray) ++ P0) ++ (⟨#[32]⟩ : ByteArray) ++ P1), .string ⟨#[108, 111, 103]⟩, .string (((⟨#[100, 105, 102, 102, 32]⟩ : ByteArray) ++ P0) ++ (⟨#[32]⟩ : ByteArray) ++ P1), .string ((⟨#[100, 101, 108, 101, 116, 101, 32]⟩ : ByteArray) ++ P0), .string ⟨#[99, 111, 108, 108, 101, 99, 116]⟩, .string ⟨#[115, 116, 97, 116]⟩] 9)
            have hBy := hBx.alloc hBx.size (.cells #[.string ((⟨#[99, 104, 101, 99, 107, 111, 117, 116, 32]⟩ : ByteArray) ++ P0), .string (((⟨#[112, 97, 103, 101, 32]⟩ : ByteArray) ++ P0) ++ (⟨#[32]⟩ : ByteArray) ++ P1), .string ⟨#[108, 111, 103]⟩, .string (((⟨#[100, 105, 102, 102, 32]⟩ : ByteArray) ++ P0) ++ (⟨#[32]⟩ : ByteArray) ++ P1), .string ((⟨#[100, 101, 108, 101, 116, 101, 32]⟩ : ByteArray) ++ P0), .string ⟨#[99, 111, 108, 108, 101, 99, 116]⟩, .string ⟨#[115, 116, 97, 116]⟩] 9)
            have hNy := (Kept.alloc 0 wc (.cells #[.string ((⟨#[99, 104, 101, 99, 107, 111, 117, 116, 32]⟩ : ByteArray) ++ P0), .string (((⟨#[112, 97, 103, 101, 32]⟩ : ByteArray) ++ P0) ++ (⟨#[32]⟩ : ByteArray) ++ P1), .string ⟨#[108, 111, 103]⟩, .string (((⟨#[100, 105, 102, 102, 32]⟩ : ByteArray) ++ P0) ++ (⟨#[32]⟩ : ByteArray) ++ P1), .string ((⟨#[100, 101, 108, 101, 116, 101, 32]⟩ : ByteArray) ++ P0), .string ⟨#[99, 111, 108, 108, 101, 99, 116]⟩, .string ⟨#[115, 116, 97, 116]⟩] 9)).same _ _ hNx (.inl rfl)
            have g2 := World.alloc_heap_new (wc.alloc (.cells #[.string ((⟨#[99, 104, 101, 99, 107, 111, 117, 116, 32]⟩ : ByteArray) ++ P0), .string (((⟨#[112, 97, 103, 101, 32]⟩ : ByteArray) ++ P0) ++ (⟨#[32]⟩ : ByteArray) ++ P1), .string ⟨#[108, 111, 103]⟩, .string (((⟨#[100, 105, 102, 102, 32]⟩ : ByteArray) ++ P0) ++ (⟨#[32]⟩ : ByteArray) ++ P1), .string ((⟨#[100, 101, 108, 101, 116, 101, 32]⟩ : ByteArray) ++ P0), .string ⟨#[99, 111, 108, 108, 101, 99, 116]⟩, .string ⟨#[115, 116, 97, 116]⟩] 9)) (.cells #[.int .i64 2, .int .i64 3, .int .i64 4, .int .i64 5, .int .i64 6, .int .i64 7, .int .i64 8] 3)
            have hBz := hBy.alloc hBy.size (.cells #[.int .i64 2, .int .i64 3, .int .i64 4, .int .i64 5, .int .i64 6, .int .i64 7, .int .i64 8] 3)
            have hNz := (Kept.alloc 0 (wc.alloc (.cells #[.string ((⟨#[99, 104, 101, 99, 107, 111, 117, 116, 32]⟩ : ByteArray) ++ P0), .string (((⟨#[112, 97, 103, 101, 32]⟩ : ByteArray) ++ P0) ++ (⟨#[32]⟩ : ByteArray) ++ P1), .string ⟨#[108, 111, 103]⟩, .string (((⟨#[100, 105, 102, 102, 32]⟩ : ByteArray) ++ P0) ++ (⟨#[32]⟩ : ByteArray) ++ P1), .string ((⟨#[100, 101, 108, 101, 116, 101, 32]⟩ : ByteArray) ++ P0), .string ⟨#[99, 111, 108, 108, 101, 99, 116]⟩, .string ⟨#[115, 116, 97, 116]⟩] 9)) (.cells #[.int .i64 2, .int .i64 3, .int .i64 4, .int .i64 5, .int .i64 6, .int .i64 7, .int .i64 8] 3)).same _ _ hNy (.inl rfl)
            have g3 := (Kept.alloc 0 (wc.alloc (.cells #[.string ((⟨#[99, 104, 101, 99, 107, 111, 117, 116, 32]⟩ : ByteArray) ++ P0), .string (((⟨#[112, 97, 103, 101, 32]⟩ : ByteArray) ++ P0) ++ (⟨#[32]⟩ : ByteArray) ++ P1), .string ⟨#[108, 111, 103]⟩, .string (((⟨#[100, 105, 102, 102, 32]⟩ : ByteArray) ++ P0) ++ (⟨#[32]⟩ : ByteArray) ++ P1), .string ((⟨#[100, 101, 108, 101, 116, 101, 32]⟩ : ByteArray) ++ P0), .string ⟨#[99, 111, 108, 108, 101, 99, 116]⟩, .string ⟨#[115, 116, 97, 116]⟩] 9)) (.cells #[.int .i64 2, .int .i64 3, .int .i64 4, .int .i64 5, .int .i64 6, .int .i64 7, .int .i64 8] 3)).same _ _ g1 (.inl rfl)
            rw [World.size_alloc] at g2
            clear g1 hBy hNy hNx
            go_wp2_with (fail)
            go_loopw [13] (fun iv wr => ∃ k : Nat, k ≤ 7 ∧ iv = .int .i64 k ∧ wr.heap[n₀]? = some (.cells #[.int .u16 m0, .int .u16 m1, .int .u16 m2, .int .u16 m3, .int .u16 m4, .int .u16 m5] 40 (0, 0)) ∧ wr.heap[wc.heap.size]? = some (.cells #[.string ((⟨#[99, 104, 101, 99, 107, 111, 117, 116, 32]⟩ : ByteArray) ++ P0), .string (((⟨#[112, 97, 103, 101, 32]⟩ : ByteArray) ++ P0) ++ (⟨#[32]⟩ : ByteArray) ++ P1), .string ⟨#[108, 111, 103]⟩, .string (((⟨#[100, 105, 102, 102, 32]⟩ : ByteArray) ++ P0) ++ (⟨#[32]⟩ : ByteArray) ++ P1), .string ((⟨#[100, 101, 108, 101, 116, 101, 32]⟩ : ByteArray) ++ P0), .string ⟨#[99, 111, 108, 108, 101, 99, 116]⟩, .string ⟨#[115, 116, 97, 116]⟩] 9 (0, 0)) ∧ wr.heap[wc.heap.size + 1]? = some (.cells #[.int .i64 2, .int .i64 3, .int .i64 4, .int .i64 5, .int .i64 6, .int .i64 7, .int .i64 8] 3 (0, 0)) ∧ Below w.heap.size w wr) (fun iv _ => 7 - (RowKit.intOf iv).toNat)
            case atStart => exact ⟨0, Nat.zero_le _, rfl, hNz, g3, g2, hBz⟩
            case round =>
              obtain ⟨k, hk, rfl, hN, hA, hK7, hB⟩ := hrel
              clear hNz g2 g3 hBz
              by_cases hk7 : k < 7
              · have hkI : (k : Int) < 7 := by omega
                obtain ⟨TB, X, hTB, hTz, hKk, hrow⟩ := seven_at P0 P1 m0 m1 hP0 hP1 hm.1 hm.2.1 k hk7
                have cT := cell_blk hA hTB
                have cKk := cell_blk hK7 hKk
                have c1 := hid (Line_val TB wr (by omega) (hT.below (id hB)) (ofO X) 0 (.inl ⟨by rw [ofO_op]; exact hrow.line, rfl⟩))
                unfold ofO opV opC at c1
                dsimp only at c1
                have hTm : lineS (TB ++ (⟨#[32, 49, 32, 50, 32, 51]⟩ : ByteArray)).data.toList = none := by rw [ByteArray.data_append, Array.toList_append]; exact hrow.more
                have hTmz : (TB ++ (⟨#[32, 49, 32, 50, 32, 51]⟩ : ByteArray)).size = TB.size + 6 := ByteArray.size_append
                have hTzI : (TB.size : Int) ≤ 60 := by omega
                replace hTm := hid hTm
                go_wp2_with (fail)
                refine c1.out.mono ?_
                rintro e w1 ⟨rfl, b1⟩
                have B1 := hB.trans (b1.mono hB.size)
                have B2 := B1.alloc B1.size (.cells #[.int .i64 X.kind, .int .i64 X.rev, .int .i64 X.other, .int .i64 X.n, .string ⟨X.src.toArray⟩, .int .i64 X.width, .int .i64 X.height, .int .i64 X.tol, .int .i64 X.cost, .int .i64 X.indent] 25)
                have hN1 := (Kept.alloc 0 w1 (.cells #[.int .i64 X.kind, .int .i64 X.rev, .int .i64 X.other, .int .i64 X.n, .string ⟨X.src.toArray⟩, .int .i64 X.width, .int .i64 X.height, .int .i64 X.tol, .int .i64 X.cost, .int .i64 X.indent] 25)).same _ _ ((Kept.of_below b1 0).same _ _ hN (.inl rfl)) (.inl rfl)
                have hA1 := (Kept.alloc 0 w1 (.cells #[.int .i64 X.kind, .int .i64 X.rev, .int .i64 X.other, .int .i64 X.n, .string ⟨X.src.toArray⟩, .int .i64 X.width, .int .i64 X.height, .int .i64 X.tol, .int .i64 X.cost, .int .i64 X.indent] 25)).same _ _ ((Kept.of_below b1 0).same _ _ hA (.inl rfl)) (.inl rfl)
                have hK1 := (Kept.alloc 0 w1 (.cells #[.int .i64 X.kind, .int .i64 X.rev, .int .i64 X.other, .int .i64 X.n, .string ⟨X.src.toArray⟩, .int .i64 X.width, .int .i64 X.height, .int .i64 X.tol, .int .i64 X.cost, .int .i64 X.indent] 25)).same _ _ ((Kept.of_below b1 0).same _ _ hK7 (.inl rfl)) (.inl rfl)
                have y1 := World.alloc_heap_new w1 (.cells #[.int .i64 X.kind, .int .i64 X.rev, .int .i64 X.other, .int .i64 X.n, .string ⟨X.src.toArray⟩, .int .i64 X.width, .int .i64 X.height, .int .i64 X.tol, .int .i64 X.cost, .int .i64 X.indent] 25)
                have cT1 := cell_blk hA1 hTB
                have c2 := hid (Line_val (TB ++ (⟨#[32, 49, 32, 50, 32, 51]⟩ : ByteArray)) (w1.alloc (.cells #[.int .i64 X.kind, .int .i64 X.rev, .int .i64 X.other, .int .i64 X.n, .string ⟨X.src.toArray⟩, .int .i64 X.width, .int .i64 X.height, .int .i64 X.tol, .int .i64 X.cost, .int .i64 X.indent] 25)) (by omega) (hT.below (id B2)) zOp 11 (.inr ⟨hTm.out, rfl, rfl⟩))
                unfold zOp opV opC at c2
                dsimp only at c2
                obtain ⟨by1, hby1⟩ : ∃ n, w1.heap.size = n := ⟨_, rfl⟩
                rw [hby1] at y1
                clear c1 hN hA hK7 hB cT cKk
                go_wp2_with (fail)
                refine c2.out.mono ?_
                rintro e w2 ⟨rfl, b2⟩
                have B3 := (B2.trans (b2.mono B2.size)).alloc (B2.trans (b2.mono B2.size)).size (.cells #[.int .i64 0, .int .i64 0, .int .i64 0, .int .i64 0, .string ⟨#[]⟩, .int .i64 0, .int .i64 0, .int .i64 0, .int .i64 0, .int .i64 0] 25)
                have hN2 := (Kept.alloc 0 w2 (.cells #[.int .i64 0, .int .i64 0, .int .i64 0, .int .i64 0, .string ⟨#[]⟩, .int .i64 0, .int .i64 0, .int .i64 0, .int .i64 0, .int .i64 0] 25)).same _ _ ((Kept.of_below b2 0).same _ _ hN1 (.inl rfl)) (.inl rfl)
                have hA2 := (Kept.alloc 0 w2 (.cells #[.int .i64 0, .int .i64 0, .int .i64 0, .int .i64 0, .string ⟨#[]⟩, .int .i64 0, .int .i64 0, .int .i64 0, .int .i64 0, .int .i64 0] 25)).same _ _ ((Kept.of_below b2 0).same _ _ hA1 (.inl rfl)) (.inl rfl)
                have hK2 := (Kept.alloc 0 w2 (.cells #[.int .i64 0, .int .i64 0, .int .i64 0, .int .i64 0, .string ⟨#[]⟩, .int .i64 0, .int .i64 0, .int .i64 0, .int .i64 0, .int .i64 0] 25)).same _ _ ((Kept.of_below b2 0).same _ _ hK1 (.inl rfl)) (.inl rfl)
                have y2 := (Kept.alloc 0 w2 (.cells #[.int .i64 0, .int .i64 0, .int .i64 0, .int .i64 0, .string ⟨#[]⟩, .int .i64 0, .int .i64 0, .int .i64 0, .int .i64 0, .int .i64 0] 25)).same _ _ ((Kept.of_below b2 0).same _ _ y1 (.inl rfl)) (.inl rfl)
                have cK2 := cell_blk hK2 hKk
                have u0 : (w2.alloc (.cells #[.int .i64 0, .int .i64 0, .int .i64 0, .int .i64 0, .string ⟨#[]⟩, .int .i64 0, .int .i64 0, .int .i64 0, .int .i64 0, .int .i64 0] 25)).cell? ⟨by1, 0, none⟩ = some (.int .i64 ((k : Int) + 2)) := by rw [← hrow.kind]; exact cell_blk (i := 0) y2 rfl
                have q0 : (w2.alloc (.cells #[.int .i64 0, .int .i64 0, .int .i64 0, .int .i64 0, .string ⟨#[]⟩, .int .i64 0, .int .i64 0, .int .i64 0, .int .i64 0, .int .i64 0] 25)).cell? ⟨n₀, 0, none⟩ = some (.int .u16 m0) := cell_blk (i := 0) hN2 rfl
                have q1 : (w2.alloc (.cells #[.int .i64 0, .int .i64 0, .int .i64 0, .int .i64 0, .string ⟨#[]⟩, .int .i64 0, .int .i64 0, .int .i64 0, .int .i64 0, .int .i64 0] 25)).cell? ⟨n₀, 1, none⟩ = some (.int .u16 m1) := cell_blk (i := 1) hN2 rfl
                clear c2 hN1 hA1 hK1 cT1 y1 b2 b1 B1 B2
                replace hrow := hid hrow
                clear hTB hKk hTmz hTzI hTz s1 s2 s3 s4 s5 s6 s7 s8 z0I z1I hSI hHI hHl hHz hBz hzx hNlt
                go_wp2_with (fail)
                go_quiet (fail)
                go_upto_region 23 with (fail)
                have h7 : k = 0 ∨ k = 1 ∨ k = 2 ∨ k = 3 ∨ k = 4 ∨ k = 5 ∨ k = 6 := by omega
                rcases h7 with rfl | rfl | rfl | rfl | rfl | rfl | rfl
                · have u1 : (w2.alloc (.cells #[.int .i64 0, .int .i64 0, .int .i64 0, .int .i64 0, .string ⟨#[]⟩, .int .i64 0, .int .i64 0, .int .i64 0, .int .i64 0, .int .i64 0] 25)).cell? ⟨by1, 1, none⟩ = some (.int .i64 m0) := by rw [← hrow.out.rev (by omega)]; exact cell_blk (i := 1) y2 rfl
                  go_wp2_with (fail)
                  exact ⟨⟨1, by omega, rfl, hN2, hA2, hK2, B3.drewN _⟩, by simp [RowKit.intOf]⟩
                · have u1 : (w2.alloc (.cells #[.int .i64 0, .int .i64 0, .int .i64 0, .int .i64 0, .string ⟨#[]⟩, .int .i64 0, .int .i64 0, .int .i64 0, .int .i64 0, .int .i64 0] 25)).cell? ⟨by1, 1, none⟩ = some (.int .i64 m0) := by rw [← hrow.out.rev (by omega)]; exact cell_blk (i := 1) y2 rfl
                  have u3 : (w2.alloc (.cells #[.int .i64 0, .int .i64 0, .int .i64 0, .int .i64 0, .string ⟨#[]⟩, .int .i64 0, .int .i64 0, .int .i64 0, .int .i64 0, .int .i64 0] 25)).cell? ⟨by1, 3, none⟩ = some (.int .i64 m1) := by rw [← hrow.out.num rfl]; exact cell_blk (i := 3) y2 rfl
                  go_wp2_with (fail)
                  exact ⟨⟨2, by omega, rfl, hN2, hA2, hK2, B3.drewN _⟩, by simp [RowKit.intOf]⟩
                · go_wp2_with (fail)
                  exact ⟨⟨3, by omega, rfl, hN2, hA2, hK2, B3.drewN _⟩, by simp [RowKit.intOf]⟩
                · have u1 : (w2.alloc (.cells #[.int .i64 0, .int .i64 0, .int .i64 0, .int .i64 0, .string ⟨#[]⟩, .int .i64 0, .int .i64 0, .int .i64 0, .int .i64 0, .int .i64 0] 25)).cell? ⟨by1, 1, none⟩ = some (.int .i64 m0) := by rw [← hrow.out.rev (by omega)]; exact cell_blk (i := 1) y2 rfl
                  have u2 : (w2.alloc (.cells #[.int .i64 0, .int .i64 0, .int .i64 0, .int .i64 0, .string ⟨#[]⟩, .int .i64 0, .int .i64 0, .int .i64 0, .int .i64 0, .int .i64 0] 25)).cell? ⟨by1, 2, none⟩ = some (.int .i64 m1) := by rw [← hrow.out.other rfl]; exact cell_blk (i := 2) y2 rfl
                  go_wp2_with (fail)
                  exact ⟨⟨4, by omega, rfl, hN2, hA2, hK2, B3.drewN _⟩, by simp [RowKit.intOf]⟩
                · go_wp2_with (fail)
                  exact ⟨⟨5, by omega, rfl, hN2, hA2, hK2, B3.drewN _⟩, by simp [RowKit.intOf]⟩
                · go_wp2_with (fail)
                  exact ⟨⟨6, by omega, rfl, hN2, hA2, hK2, B3.drewN _⟩, by simp [RowKit.intOf]⟩
                · go_wp2_with (fail)
                  exact ⟨⟨7, by omega, rfl, hN2, hA2, hK2, B3.drewN _⟩, by simp [RowKit.intOf]⟩
              · obtain rfl : k = 7 := by omega
                have cV := hid (wakes_any wr (hT.below (id hB)))
                clear hA hK7 hN
                go_wp2_with (fail)
                refine cV.out.mono ?_
                rintro e w9 ⟨rfl, b9⟩
                go_wp2_with (fail)
                go_ret
                exact ⟨rfl, hB.trans (b9.mono hB.size)⟩
end Go.Proofs.YtkmnmigpnbehaaaDoor
