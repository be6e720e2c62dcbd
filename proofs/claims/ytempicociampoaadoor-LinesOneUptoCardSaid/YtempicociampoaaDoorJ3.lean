/- Plain laws of UTF-8: a text is valid if and only if it is the signs' bytes, one sign behind the other; it is that of one list of signs alone. The walk of utf's iterator over a text's signs. The library's contracts in this seat: utf8.ValidString, strings.IndexByte. -/
import Derived.Test.YtempicociampoaaDoorLib
import Derived.Lib.MapLaws
import Derived.Lib.ValidU
import Derived.Lib.DecodeN
import Derived.Test.YtempicociampoaaDoorRange
import Derived.Lib.OthersKept
import Derived.Shelf.Unicode.ValidAny
import Derived.Shelf.Strings.Search1
import Derived.Shelf.Small.Strs
import Derived.Test.YtempicociampoaaDoorProg
namespace Go.Proofs.YtempicociampoaaDoor
open Go.Lib

def okv (v : Int) : Prop := 0 ≤ v ∧ v ≤ 1114111 ∧ ¬ (55296 ≤ v ∧ v ≤ 57343)
instance (v : Int) : Decidable (okv v) := by unfold okv; infer_instance
/-- the text of signs -/
def txt (xs : List Int) : List UInt8 := xs.flatMap encodeRune

theorem encZ_cases {v : Int} (h : okv v) :
    (v ≤ 127 ∧ encodeRuneZ v = [v]) ∨ (128 ≤ v ∧ v ≤ 2047 ∧ encodeRuneZ v = [192 + v / 64, 128 + v % 64]) ∨
    (2048 ≤ v ∧ v ≤ 65535 ∧ encodeRuneZ v = [224 + v / 4096, 128 + v / 64 % 64, 128 + v % 64]) ∨
    (65536 ≤ v ∧ encodeRuneZ v = [240 + v / 262144, 128 + v / 4096 % 64, 128 + v / 64 % 64, 128 + v % 64]) := by
  obtain ⟨h1, h2, h3⟩ := h
  unfold encodeRuneZ
  by_cases c1 : v ≤ 127
  · left; exact ⟨c1, by rw [if_pos ⟨h1, c1⟩]⟩
  · right
    rw [if_neg (by omega)]
    by_cases c2 : v ≤ 2047
    · left; exact ⟨by omega, c2, by rw [if_pos (by omega)]⟩
    · right
      rw [if_neg (by omega)]
      by_cases c3 : v ≤ 65535
      · left; exact ⟨by omega, c3, by rw [if_pos (by omega)]⟩
      · right; exact ⟨by omega, by rw [if_neg (by omega), if_pos (by omega)]⟩

theorem dL (l : List UInt8) : decodeL l = decodeN l.length (l.getD 0 0).toNat (l.getD 1 0).toNat (l.getD 2 0).toNat (l.getD 3 0).toNat := by
  unfold decodeL
  rw [decode_at]
  have g : ∀ k, (⟨l.toArray⟩ : ByteArray).get! k = l.getD k 0 := fun k => by
    show l.toArray[k]! = _
    simp [List.getD]
    cases l[k]? <;> rfl
  simp only [g]
  rfl

theorem b8 {z : Int} (h0 : 0 ≤ z) (h1 : z ≤ 255) : (z.toNat.toUInt8).toNat = z.toNat := by
  rw [Nat.toUInt8, UInt8.toNat_ofNat']; omega

theorem enc_len {v : Int} (h : okv v) : 1 ≤ (encodeRune v).length ∧ (encodeRune v).length ≤ 4 := by
  rcases encZ_cases h with ⟨_, e⟩ | ⟨_, _, e⟩ | ⟨_, _, e⟩ | ⟨_, e⟩ <;> simp [encodeRune, e]

/-- what is decoded at the head of a sign's bytes is the sign -/
theorem dec_enc {v : Int} (h : okv v) (t : List UInt8) : decodeL (encodeRune v ++ t) = (v.toNat, (encodeRune v).length) := by
  rw [dL]
  have h' := h
  obtain ⟨h1, h2, h3⟩ := h'
  rcases encZ_cases h with ⟨c, e⟩ | ⟨c1, c2, e⟩ | ⟨c1, c2, e⟩ | ⟨c, e⟩
  · simp only [encodeRune, e, List.map_cons, List.map_nil, List.cons_append, List.nil_append, List.getD_cons_zero, List.length_cons, List.length_nil]
    rw [b8 (by omega) (by omega)]
    unfold decodeN
    rw [if_pos (by omega)]
  · simp only [encodeRune, e, List.map_cons, List.map_nil, List.cons_append, List.nil_append, List.getD_cons_zero, List.getD_cons_succ, List.length_cons, List.length_nil]
    rw [b8 (by omega) (by omega), b8 (by omega) (by omega)]
    unfold decodeN
    rw [if_neg (by omega), if_pos (by omega), if_pos (by omega)]
    refine Prod.ext ?_ rfl
    show (192 + v / 64).toNat % 32 * 64 + (128 + v % 64).toNat % 64 = v.toNat
    omega
  · simp only [encodeRune, e, List.map_cons, List.map_nil, List.cons_append, List.nil_append, List.getD_cons_zero, List.getD_cons_succ, List.length_cons, List.length_nil]
    rw [b8 (by omega) (by omega), b8 (by omega) (by omega), b8 (by omega) (by omega)]
    have e0 : (224 + v / 4096).toNat % 16 * 4096 + (128 + v / 64 % 64).toNat % 64 * 64 + (128 + v % 64).toNat % 64 = v.toNat := by omega
    unfold decodeN
    rw [if_neg (by omega), if_neg (by omega), if_pos (by omega), if_pos (by omega), e0]
  · simp only [encodeRune, e, List.map_cons, List.map_nil, List.cons_append, List.nil_append, List.getD_cons_zero, List.getD_cons_succ, List.length_cons, List.length_nil]
    rw [b8 (by omega) (by omega), b8 (by omega) (by omega), b8 (by omega) (by omega), b8 (by omega) (by omega)]
    have e0 : (240 + v / 262144).toNat % 8 * 262144 + (128 + v / 4096 % 64).toNat % 64 * 4096 + (128 + v / 64 % 64).toNat % 64 * 64 + (128 + v % 64).toNat % 64 = v.toNat := by omega
    unfold decodeN
    rw [if_neg (by omega), if_neg (by omega), if_neg (by omega), if_pos (by omega), if_pos (by omega), e0]

theorem enc_one {v : Int} (h : okv v) : ¬ (v = 65533 ∧ (encodeRune v).length = 1) := by
  rintro ⟨rfl, h2⟩
  simp [encodeRune, encodeRuneZ] at h2

/-- what decodes well is a sign -/
theorem dec_ok (l : List UInt8) (h : ¬ ((decodeL l).1 = 65533 ∧ (decodeL l).2 = 1)) : okv ((decodeL l).1 : Int) := by
  rw [dL] at h ⊢
  unfold okv
  rcases decodeN_shape l.length (l.getD 0 0).toNat (l.getD 1 0).toNat (l.getD 2 0).toNat (l.getD 3 0).toNat with ⟨a, e⟩ | ⟨a, _, b, c, e⟩ | ⟨a, _, b, c, d, f, e⟩ | ⟨a, _, b, c, d, f, g, e⟩ | e
  · rw [e]; simp only []; omega
  · rw [e]; simp only []; omega
  · rw [e]; simp only []; omega
  · rw [e]; simp only []; omega
  · exact absurd ⟨by rw [e], by rw [e]⟩ h

theorem txt_cons (x : Int) (xs : List Int) : txt (x :: xs) = encodeRune x ++ txt xs := rfl
theorem txt_append (a b : List Int) : txt (a ++ b) = txt a ++ txt b := by simp [txt]

theorem validGo_iff : ∀ (n : Nat) (l : List UInt8), l.length ≤ n → (validGoD n l = true ↔ ∃ xs : List Int, (∀ x ∈ xs, okv x) ∧ l = txt xs)
  | 0, l, h => by
    obtain rfl : l = [] := by simpa using h
    simp only [validGoD, true_iff]
    exact ⟨[], by simp, rfl⟩
  | n + 1, l, h => by
    unfold validGoD
    by_cases h0 : l = []
    · rw [if_pos h0]; subst h0
      exact ⟨fun _ => ⟨[], by simp, rfl⟩, fun _ => rfl⟩
    · rw [if_neg h0]
      have hle := decodeL_le l h0
      have hw := decodeL_width l
      by_cases hb : (decodeL l).1 = 65533 ∧ (decodeL l).2 = 1
      · rw [if_pos hb]
        refine ⟨fun h => (by cases h), ?_⟩
        rintro ⟨xs, hx, rfl⟩
        cases xs with
        | nil => exact absurd rfl h0
        | cons x xs =>
          rw [txt_cons, dec_enc (hx x (by simp))] at hb
          exact absurd ⟨by have := (hx x (by simp)).1; have := hb.1; omega, hb.2⟩ (enc_one (hx x (by simp)))
      · rw [if_neg hb, validGo_iff n _ (by simp; omega)]
        constructor
        · rintro ⟨xs, hx, e⟩
          refine ⟨((decodeL l).1 : Int) :: xs, ?_, ?_⟩
          · intro x hx2
            rcases List.mem_cons.1 hx2 with rfl | hx2
            · exact dec_ok l hb
            · exact hx x hx2
          · rw [txt_cons, encode_decode l h0 hb, ← e, List.take_append_drop]
        · rintro ⟨xs, hx, rfl⟩
          cases xs with
          | nil => exact absurd rfl h0
          | cons x xs =>
            refine ⟨xs, fun y hy => hx y (by simp [hy]), ?_⟩
            rw [txt_cons, dec_enc (hx x (by simp))]
            simp

/-- A TEXT IS VALID JUST WHERE IT IS THE TEXT OF SIGNS. -/
theorem valid_iff (l : List UInt8) : validD l = true ↔ ∃ xs : List Int, (∀ x ∈ xs, okv x) ∧ l = txt xs := validGo_iff _ _ (Nat.le_refl _)

/-- .. of one list of signs alone -/
theorem txt_inj : ∀ {xs ys : List Int}, (∀ x ∈ xs, okv x) → (∀ y ∈ ys, okv y) → txt xs = txt ys → xs = ys
  | [], [], _, _, _ => rfl
  | [], y :: ys, _, hy, h => by
    have := (enc_len (hy y (by simp))).1
    have h2 := congrArg List.length h
    rw [txt_cons] at h2
    simp [txt] at h2
    omega
  | x :: xs, [], hx, _, h => by
    have h1 := (enc_len (hx x (by simp))).1
    have h2 := congrArg List.length h
    rw [txt_cons, List.length_append] at h2
    have h3 : (txt []).length = 0 := rfl
    omega
  | x :: xs, y :: ys, hx, hy, h => by
    rw [txt_cons, txt_cons] at h
    have h1 := dec_enc (hx x (by simp)) (txt xs)
    rw [h, dec_enc (hy y (by simp))] at h1
    have e1 : x = y := by
      have := congrArg Prod.fst h1
      have a := (hx x (by simp)).1
      have b := (hy y (by simp)).1
      simp only [] at this
      omega
    subst e1
    have e2 := List.append_cancel_left h
    rw [txt_inj (fun z hz => hx z (by simp [hz])) (fun z hz => hy z (by simp [hz])) e2]

theorem dec_drop (s : ByteArray) (p : Nat) : Go.Utf8.decode s p = decodeL (s.data.toList.drop p) := by
  rw [dL, decode_at]
  have g : ∀ k, s.get! (p + k) = (s.data.toList.drop p).getD k 0 := fun k => by
    show s.data[p + k]! = _
    have h : (s.data.toList.drop p)[k]? = s.data[p + k]? := by simp
    rw [List.getD_eq_getElem?_getD, h, getElem!_def]
    cases s.data[p + k]? <;> rfl
  have g0 := g 0
  simp only [Nat.add_zero] at g0
  rw [g0, g 1, g 2, g 3]
  simp

/-- the sign at the place where those of the first k end -/
theorem dec_at {s : ByteArray} {xs : List Int} (hx : ∀ x ∈ xs, okv x) (hs : s.data.toList = txt xs) {k : Nat} (hk : k < xs.length) :
    Go.Utf8.decode s (txt (xs.take k)).length = (xs[k].toNat, (encodeRune xs[k]).length) ∧ (txt (xs.take (k + 1))).length = (txt (xs.take k)).length + (encodeRune xs[k]).length ∧ (txt (xs.take k)).length < s.size := by
  have e : s.data.toList = txt (xs.take k) ++ (encodeRune xs[k] ++ txt (xs.drop (k + 1))) := by
    rw [hs, ← txt_cons, List.getElem_cons_drop hk, ← txt_append, List.take_append_drop]
  have hl := (enc_len (hx _ (List.getElem_mem hk))).1
  refine ⟨?_, ?_, ?_⟩
  · rw [dec_drop, e, List.drop_left]
    exact dec_enc (hx _ (List.getElem_mem hk)) _
  · rw [List.take_succ_eq_append_getElem hk, txt_append]
    simp [txt]
  · have h2 := congrArg List.length e
    have h3 : s.data.toList.length = s.size := rfl
    simp only [List.length_append] at h2
    omega
theorem txt_size {s : ByteArray} {xs : List Int} (hs : s.data.toList = txt xs) : (txt xs).length = s.size := by rw [← hs]; rfl
end Go.Proofs.YtempicociampoaaDoor
namespace Go.Proofs.YtempicociampoaaDoor
open Go.RowKit Go.Shelf Go.Lib
attribute [local go_sem] Oper.semAt_some

def sgEnc (x : Int) : Array Value := #[.int .i64 x]
def SgR (b : Nat) (s : ByteArray) (W : World) : Prop := W.cell? ⟨b, 0, none⟩ = some (.string s)
theorem SgR.st {b : Nat} {s : ByteArray} (B : Nat) : St B (SgR b s) := fun _ _ hk h => hk.cell h

set_option maxRecDepth 100000 in
set_option maxHeartbeats 1000000 in
theorem signs1_seq (b : Nat) (s : ByteArray) (xs : List Int) (hx : ∀ x ∈ xs, okv x) (hs : s.data.toList = txt xs) :
    Seq Tryd.prog 39 #[.pointer (some ⟨b, 0, none⟩)] sgEnc (SgR b s) (fun pre x _ => pre ++ [x] <+: xs) (fun ys _ => ys = xs) (fun _ _ => True) := by
  intro l J Jx W hJ hJx hY h0 hR0
  have hR1 : W.cell? ⟨b, 0, none⟩ = some (.string s) := hR0
  refine calls_of_wpIn Tryd.func39 rfl ?_
  simp only [Tryd.ntmps39, List.size_toArray, List.length_cons, List.length_nil, Nat.reduceAdd, Nat.reduceSub, Array.replicate_succ, Array.replicate_zero, List.push_toArray, List.append_toArray, List.nil_append, List.cons_append]
  have kI : Kept W.heap.size W (W.iter s 0) := Kept.alloc _ _ _
  have hI0 : (W.iter s 0).heap[W.heap.size]? = some (.stringIter s 0) := World.iter_heap W s 0
  gi_wp2
  gi_loopw [4] (fun _ wr => ∃ k : Nat, k ≤ xs.length ∧ J (xs.take k) wr ∧ SgR b s wr ∧ wr.heap[W.heap.size]? = some (.stringIter s (txt (xs.take k)).length)) (fun _ wr => s.size - wr.iterPos W.heap.size)
  case atStart => exact ⟨0, Nat.zero_le _, hJ _ _ _ kI h0, SgR.st _ _ _ kI hR0, hI0⟩
  case round =>
    obtain ⟨k, hk, hJs, hRs, hit⟩ := hrel
    by_cases hlt : k < xs.length
    · obtain ⟨hd, hlen, hpos⟩ := dec_at hx hs hlt
      have hnx := run_next_any_at (P := Tryd.prog) wr W.heap.size s (txt (xs.take k)).length 0 hit hpos
      have hk1 : xs.take (k + 1) = xs.take k ++ [xs[k]] := List.take_succ_eq_append_getElem hlt
      have hadm : xs.take k ++ [xs[k]] <+: xs := by rw [← hk1]; exact List.take_prefix _ _
      have hok := hx _ (List.getElem_mem hlt)
      obtain ⟨c1, c2, -⟩ := hok
      have hbl := (enc_len (hx _ (List.getElem_mem hlt))).1
      rw [hd] at hnx
      have ec : ((xs[k].toNat : Nat) : Int) = xs[k] := by omega
      simp only [ec] at hnx
      rw [← hlen] at hnx
      rw [← hk1] at hadm
      have Hk1 := hid hk1
      have Hlen := hid hlen
      clear hk1 hlen hd ec
      generalize xs[k] = x at *
      obtain ⟨W2, hW2⟩ : ∃ W2, wr.iterAt W.heap.size s (txt (xs.take (k + 1))).length = W2 := ⟨_, rfl⟩
      have kp : Kept W.heap.size wr W2 := by rw [← hW2]; exact Kept.putObj _ (Nat.le_refl _) hit rfl
      have hit2 : W2.heap[W.heap.size]? = some (.stringIter s (txt (xs.take (k + 1))).length) := by rw [← hW2]; exact iterAt_heap _ _ _ _ _ hit
      rw [hW2] at hnx
      clear hW2
      have hR2 := SgR.st _ _ _ kp hRs
      rw [Hk1.out] at hadm
      obtain ⟨fn, tmps, assign, body, hy, hR⟩ := hY _ x W2 (hJ _ _ _ kp hJs) hR2 hadm
      dsimp only [sgEnc] at hy
      gi_wp2
      refine ⟨rfl, hR.mono ?_⟩
      rintro e W3 (⟨rfl, hJ3, hR3, hkf⟩ | ⟨rfl, hJx3⟩)
      · have hit3 := hkf.same _ _ (Nat.le_refl _) hit2 rfl
        gi_wp2
        go_roundw
        case rel => exact ⟨k + 1, by omega, by rw [Hk1.out]; exact hJ3, hR3, hit3⟩
        case measure => rw [iterPos_of hit3, iterPos_of hit, Hlen.out]; omega
      · gi_wp2
        refine bodyPost_ret (results_none rfl _ _ _) rfl ?_
        exact ⟨⟨_, rfl⟩, .inr ⟨_, trivial, hJx3⟩⟩
    · have hte : xs.take k = xs := List.take_of_length_le (by omega)
      rw [hte] at hit hJs
      have hnx := run_next_end_at (P := Tryd.prog) wr W.heap.size s (txt xs).length 0 hit (by rw [txt_size hs]; omega)
      gi_wp2
      go_end0
      exact ⟨⟨_, rfl⟩, .inl ⟨_, rfl, hJs, hRs⟩⟩
theorem Tryd.infoI : (Tryd.prog.info? 3).map (fun i => (i.zero, i.size, i.bytes)) = some (some (.int .i64 0), 1, 8) := by kernel_rfl

end Go.Proofs.YtempicociampoaaDoor
namespace Go.Proofs
open Go.Shelf
def Tryd.lays196_ren : Go.Shelf.Ren := ⟨fun | 196 => 38 | 259 => 57 | n => n, fun | 0 => 0 | 3 => 3 | 4 => 4 | 5 => 5 | 9 => 9 | 12 => 12 | 46 => 87 | 53 => 141 | 119 => 119 | 138 => 121 | 139 => 122 | n => n, fun | 3 => 0 | 4 => 1 | n => n⟩
theorem Tryd.lays196 : Go.Proofs.Lays.n196 Tryd.prog Tryd.lays196_ren := {
  mixed := by kernel_rfl
  f196 := Tryd.func38.trans (congrArg some (by kernel_rfl))
  f259 := Tryd.func57.trans (congrArg some (by kernel_rfl))
  t0 := Tryd.underlying0
  a0 := Tryd.isAgg0
  z0 := Tryd.sizeOf0
  v0 := Tryd.zeroValue0
  t3 := Tryd.underlying3
  a3 := Tryd.isAgg3
  z3 := Tryd.sizeOf3
  v3 := Tryd.zeroValue3
  t4 := Tryd.underlying4
  a4 := Tryd.isAgg4
  z4 := Tryd.sizeOf4
  v4 := Tryd.zeroValue4
  t5 := Tryd.underlying5
  a5 := Tryd.isAgg5
  z5 := Tryd.sizeOf5
  v5 := Tryd.zeroValue5
  t9 := Tryd.underlying9
  a9 := Tryd.isAgg9
  z9 := Tryd.sizeOf9
  v9 := Tryd.zeroValue9
  t12 := Tryd.underlying12
  a12 := Tryd.isAgg12
  z12 := Tryd.sizeOf12
  v12 := Tryd.zeroValue12
  t46 := Tryd.underlying87
  a46 := Tryd.isAgg87
  z46 := Tryd.sizeOf87
  v46 := Tryd.zeroValue87
  t53 := Tryd.underlying141
  a53 := Tryd.isAgg141
  z53 := Tryd.sizeOf141
  v53 := Tryd.zeroValue141
  t119 := Tryd.underlying119
  a119 := Tryd.isAgg119
  z119 := Tryd.sizeOf119
  t138 := Tryd.underlying121
  a138 := Tryd.isAgg121
  z138 := Tryd.sizeOf121
  v138 := Tryd.zeroValue121
  t139 := Tryd.underlying122
  a139 := Tryd.isAgg122
  z139 := Tryd.sizeOf122
  v139 := Tryd.zeroValue122
  g3 := by kernel_rfl
  g4 := by kernel_rfl }
open Go.RowKit in
/-- utf8.ValidString -/
theorem Tryd.utf8_ValidString (s : ByteArray) (w : World) (hs : s.size ≤ 9223372036854775807) (hT : Lib.Utf8Tabs (Tryd.lays196_ren.g 3) (Tryd.lays196_ren.g 4) w) :
    Calls Tryd.prog 38 #[.string s] w fun e w' => e = .returned (.bool (Lib.validD s.data.toList)) ∧ Below w.heap.size w w' := Any.utf8_ValidString Tryd.lays196 s w hs hT
def Tryd.lays137_ren : Go.Shelf.Ren := ⟨fun | 137 => 27 | 217 => 40 | 266 => 58 | n => n, fun | 3 => 3 | 5 => 5 | 9 => 9 | n => n, fun | n => n⟩
theorem Tryd.lays137 : Go.Proofs.Lays.n137 Tryd.prog Tryd.lays137_ren := {
  mixed := by kernel_rfl
  f137 := Tryd.func27.trans (congrArg some (by kernel_rfl))
  f217 := Tryd.func40.trans (congrArg some (by kernel_rfl))
  f266 := Tryd.func58.trans (congrArg some (by kernel_rfl))
  t3 := Tryd.underlying3
  a3 := Tryd.isAgg3
  z3 := Tryd.sizeOf3
  v3 := Tryd.zeroValue3
  t5 := Tryd.underlying5
  a5 := Tryd.isAgg5
  z5 := Tryd.sizeOf5
  v5 := Tryd.zeroValue5
  t9 := Tryd.underlying9
  a9 := Tryd.isAgg9
  z9 := Tryd.sizeOf9
  v9 := Tryd.zeroValue9 }
open Go.RowKit in
/-- strings.IndexByte -/
theorem Tryd.strings_IndexByte (s : ByteArray) (c : Int) (w : World) :
    Calls Tryd.prog 27 #[.string s, .int .u8 c] w fun e w' => e = .returned (.int .i64 (Lib.indexByte s.data.toList c.toNat.toUInt8)) ∧ w' = w := Any.strings_IndexByte Tryd.lays137 s c w
end Go.Proofs
