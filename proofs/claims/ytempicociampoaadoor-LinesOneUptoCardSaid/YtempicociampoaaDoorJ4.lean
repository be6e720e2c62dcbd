/- The walks of utf.Valid, signs, Signs. The walk of the reference's Bytes (by gen_utfd.py). Plain laws of the reference's way to read a sign: byte by byte. Validity behind a prefix; when the reference stops. -/
import Derived.Test.YtempicociampoaaDoorJ3
namespace Go.Proofs.YtempicociampoaaDoor
open Go.RowKit Go.Shelf Go.Lib
attribute [local go_sem] Oper.semAt_some

/-- the library's two tables hold what they hold -/
def Tabs (w : World) : Prop := Lib.Utf8Tabs 0 1 w

set_option maxHeartbeats 400000 in
theorem Valid_any (s : ByteArray) (w : World) (hs : s.size ≤ 9223372036854775807) (hT : Tabs w) :
    Calls Tryd.prog 25 #[.string s] w fun e w' => e = .returned (.bool (validD s.data.toList)) ∧ Below w.heap.size w w' := by
  have hc := Tryd.utf8_ValidString s w hs hT
  clear hT
  go_enter Tryd.func25, Tryd.ntmps25
  go_wp2_with (fail)
  refine hc.mono ?_
  rintro e w' ⟨rfl, hB⟩
  go_wp2
  go_ret
  exact ⟨rfl, hB⟩

set_option maxHeartbeats 400000 in
theorem signs_any (s : ByteArray) (w : World) :
    Calls Tryd.prog 26 #[.string s] w fun e w' => e = .returned (.func (.func 39) #[] #[.pointer (some ⟨w.heap.size, 0, none⟩)]) ∧ w' = w.alloc (.cells #[.string s] 9) := by
  go_enter Tryd.func26, Tryd.ntmps26
  go_wp2
  go_ret
  exact ⟨rfl, rfl⟩

/-- of a text that is not valid: nil -/
theorem Signs_no (s : ByteArray) (w : World) (hs : s.size ≤ 9223372036854775807) (hT : Tabs w) (hv : validD s.data.toList = false) :
    Calls Tryd.prog 13 #[.string s] w fun e w' => e = .returned (.slice none 0 0) ∧ Below w.heap.size w w' := by
  have hc := Valid_any s w hs hT
  rw [hv] at hc
  refine calls_of_marks Tryd.func13 rfl ?_
  simp only [Tryd.ntmps13, List.size_toArray, List.length_cons, List.length_nil, Nat.reduceAdd, Nat.reduceSub, Array.replicate_succ, Array.replicate_zero, List.push_toArray, List.append_toArray, List.nil_append, List.cons_append]
  clear hT hv
  gi_wp2_with (fail)
  refine ⟨trivial, rfl, (callsIn_wide.2 hc).mono ?_⟩
  rintro e w' ⟨rfl, hB⟩
  gi_wp2
  exact ⟨_, results_tmp rfl _ _ _, rfl, hB⟩

set_option maxRecDepth 100000 in
set_option maxHeartbeats 1000000 in
theorem Signs_yes (s : ByteArray) (w : World) (hs : s.size ≤ 2000000) (hT : Tabs w) (xs : List Int) (hx : ∀ x ∈ xs, okv x) (hl : s.data.toList = txt xs) :
    Calls Tryd.prog 13 #[.string s] w fun e w' => ∃ v, e = .returned v ∧ Sl w' 1 encI v xs ∧ Below w.heap.size w w' := by
  obtain ⟨i0, hi, hz0, hz1, hz2⟩ := info_parts Tryd.infoI
  have hc := Valid_any s w (by omega) hT
  have hv : validD s.data.toList = true := (valid_iff _).2 ⟨xs, hx, hl⟩
  rw [hv] at hc
  have hlen : xs.length ≤ 2000000 := by
    have h1 := txt_size hl
    have : ∀ ys : List Int, (∀ y ∈ ys, okv y) → ys.length ≤ (txt ys).length := by
      intro ys
      induction ys with
      | nil => intro _; simp
      | cons y ys ih =>
        intro hy
        have := (enc_len (hy y (by simp))).1
        have := ih (fun z hz => hy z (by simp [hz]))
        rw [txt_cons, List.length_append, List.length_cons]; omega
    have := this xs hx
    omega
  refine calls_of_marks Tryd.func13 rfl ?_
  simp only [Tryd.ntmps13, List.size_toArray, List.length_cons, List.length_nil, Nat.reduceAdd, Nat.reduceSub, Array.replicate_succ, Array.replicate_zero, List.push_toArray, List.append_toArray, List.nil_append, List.cons_append]
  clear hT hv
  gi_wp2_with (fail)
  refine ⟨trivial, rfl, (callsIn_wide.2 hc).mono ?_⟩
  rintro e w0 ⟨rfl, hB0⟩
  clear hc
  gi_wp2_with (fail)
  refine ⟨trivial, rfl, (callsIn_wide.2 (signs_any s _)).mono ?_⟩
  rintro e w' ⟨rfl, rfl⟩
  gi_wp2_with (fail)
  have bO := Boxed.new w0 44 (.slice none 0 0)
  have hB1 : Below w0.heap.size w0 ((w0.alloc (.cells #[.slice none 0 0] 44)).alloc (.cells #[.string s] 9)) :=
    ((Below.refl _ w0).alloc (Nat.le_refl _) _).alloc (by simp) _
  have bS := Boxed.new (w0.alloc (.cells #[.slice none 0 0] 44)) 9 (.string s)
  simp only [World.size_alloc] at bS
  refine range_p (act := ?act) rfl (enters_of Tryd.func39 (by kernel_rfl) rfl) (signs1_seq (w0.heap.size + 1) s xs hx hl) (fun _ => rfl)
    (fun pre W => (∃ v, Boxed W w0.heap.size 44 v ∧ W.ownsRow w0.heap.size 3 1 v pre.length (pre.flatMap encI)) ∧
      Boxed W (w0.heap.size + 1) 9 (.string s) ∧ Below w0.heap.size w0 W)
    (fun _ _ _ => False)
    (fun _ => St.and (St.ex fun v => St.and St.boxed St.owns) (St.and St.boxed (St.below (by simp; omega) (Nat.le_refl _))))
    (fun _ _ _ _ _ h => h) (fun B => SgR.st B) (fun _ _ => St.pure _) (fun _ => St.pure _) (fun _ => St.pure _)
    ⟨⟨_, bO.alloc _, World.ownsRow_nil _ _ _ _⟩, bS, hB1⟩ bS.cell ?assign ?body ?done ?stop
  case assign =>
    intro l x W K hK
    dsimp only [sgEnc]
    gi_wp2
    exact hK
  case body =>
    rintro l pre x W hl2 _ ⟨⟨v, hv, hrow⟩, b1, hB⟩ hR hadm
    have hpl : pre.length + 1 ≤ 2000000 := by
      obtain ⟨t, ht⟩ := hadm
      have := congrArg List.length ht
      simp at this; omega
    have hc := hv.cell
    have n1 := b1.not_row (by decide) hrow
    clear hadm hl hx
    gi_wp2_with (gi_at_builtin; go_must (refine wpListIn_append_own _ rfl _ _ 44 rfl w0.heap.size 3 i0 (.int .i64 0) 1 8 Tryd.underlying44 hi hz0 hz1 hz2 rfl (by decide) _ _ _ rfl (hrow.alloc _) ⟨W.heap.size, 0, none⟩ 1 1 [.int .i64 x] rfl rfl (cell_one_new _ _ _) (by simp [Value.oneCell']) (by unfold maxLen; omega) (by omega) (by have := hB.size; simp; omega) ?_; intro v' w1 hown' hgrow _; obtain ⟨g', cap', rfl⟩ := ownsRow_succ hown'; obtain ⟨hv1, hv2, hr2, hk2, hb2⟩ := hv.appended (by decide) hrow hB.size (Nat.le_refl _) hown' hgrow; have hc1 := hv1.cell; have hf1 := hv1.frozen; have c1 := ((b1.alloc _).kept hgrow n1).other (B' := w0.heap.size) (by omega) (.slice (some ⟨g', 0, none⟩) (pre.length + 1) cap')))
    have hB2 := hB.trans hb2
    refine ⟨hk2.from _, c1.cell, ⟨_, hv2, ?_⟩, c1, hB2⟩
    simpa [encI] using hr2
  case done =>
    rintro D ys W hD rfl ⟨⟨v, hv, hrow⟩, -, hB⟩ hR hK
    have hc := hv.cell
    have hsl := sl_of_owns (enc := encI) (fun _ _ => rfl) hrow
    gi_wp2
    refine leave1 hK (fun _ _ => results_tmp rfl _ _ _) ⟨_, rfl, ?_, ?_⟩
    · exact (Kept.putObj (B := 0) _ (Nat.zero_le _) hK rfl).sl hsl
    · exact hB0.trans (((Kept.putObj (B := w0.heap.size) (.deferred none) (by simp at hD; omega) hK rfl).below (Nat.le_refl _) (Nat.le_refl _) hB).mono hB0.size)
  case stop =>
    rintro D c pre W _ _ h _
    exact h.elim
end Go.Proofs.YtempicociampoaaDoor
namespace Go.Proofs.YtempicociampoaaDoor
open Go.RowKit Go.Lib

def encB (n : Int) : List Value := [.int .u8 n]

theorem and63 (v : Int) (h0 : 0 ≤ v) (h1 : v < 2 ^ 62) : bits BinOp.and IntKind.i64 v 63 = v % 64 := by
  have h := bits_mask .i64 62 (by decide) (fun n h0 h1 => by rw [IntKind.wrap_i64]; omega) 6 (by decide) v h0 h1
  have e : ((2 : Int) ^ 6 - 1) = 63 := by decide
  have e2 : ((2 : Int) ^ 6) = 64 := by decide
  rw [e, e2] at h
  exact h

/-- the reference's bytes of a code point; none: it is none -/
def rbytes (v : Int) : List Int := if okv v then encodeRuneZ v else []

set_option maxRecDepth 100000 in
set_option maxHeartbeats 400000 in
theorem Bytes_no (v : Int) (w : World) (z1 : -9223372036854775808 ≤ v) (z2 : v ≤ 9223372036854775807) (h : ¬ okv v) :
    Calls Tryd.prog 35 #[.int .i64 v] w fun e w' => e = .returned (.slice none 0 0) ∧ w = w' := by
  have hc : v < 0 ∨ (¬ v < 0 ∧ 1114111 < v) ∨ (¬ v < 0 ∧ ¬ 1114111 < v ∧ 55296 ≤ v ∧ v ≤ 57343) := by unfold okv at h; omega
  clear h
  rcases hc with a | ⟨a, b⟩ | ⟨a, b, c, d⟩
  all_goals
    go_enter Tryd.func35, Tryd.ntmps35
    go_wp2
    go_ret
    exact ⟨rfl, rfl⟩

set_option maxRecDepth 100000 in
set_option maxHeartbeats 400000 in
theorem Bytes_1 (v : Int) (w : World) (h1 : 0 ≤ v) (h2 : v ≤ 127) :
    Calls Tryd.prog 35 #[.int .i64 v] w fun e w' => e = .returned (.slice (some ⟨w.heap.size, 0, none⟩) 1 1) ∧ w' = w.alloc (.cells ([v].flatMap encB).toArray 5) := by
  have q1 := and63 (v) (by omega) (by omega)
  have q2 := and63 (v / 64) (by omega) (by omega)
  have q3 := and63 (v / 4096) (by omega) (by omega)
  go_enter Tryd.func35, Tryd.ntmps35
  go_wp2
  all_goals go_ret
  all_goals exact ⟨rfl, rfl⟩

set_option maxRecDepth 100000 in
set_option maxHeartbeats 400000 in
theorem Bytes_2 (v : Int) (w : World) (h1 : 128 ≤ v) (h2 : v ≤ 2047) :
    Calls Tryd.prog 35 #[.int .i64 v] w fun e w' => e = .returned (.slice (some ⟨w.heap.size, 0, none⟩) 2 2) ∧ w' = w.alloc (.cells ([192 + v / 64, 128 + v % 64].flatMap encB).toArray 5) := by
  have q1 := and63 (v) (by omega) (by omega)
  have q2 := and63 (v / 64) (by omega) (by omega)
  have q3 := and63 (v / 4096) (by omega) (by omega)
  go_enter Tryd.func35, Tryd.ntmps35
  go_wp2
  all_goals go_ret
  all_goals exact ⟨rfl, rfl⟩

set_option maxRecDepth 100000 in
set_option maxHeartbeats 400000 in
theorem Bytes_3a (v : Int) (w : World) (h1 : 2048 ≤ v) (h2 : v < 55296) :
    Calls Tryd.prog 35 #[.int .i64 v] w fun e w' => e = .returned (.slice (some ⟨w.heap.size, 0, none⟩) 3 3) ∧ w' = w.alloc (.cells ([224 + v / 4096, 128 + v / 64 % 64, 128 + v % 64].flatMap encB).toArray 5) := by
  have q1 := and63 (v) (by omega) (by omega)
  have q2 := and63 (v / 64) (by omega) (by omega)
  have q3 := and63 (v / 4096) (by omega) (by omega)
  go_enter Tryd.func35, Tryd.ntmps35
  go_wp2
  all_goals go_ret
  all_goals exact ⟨rfl, rfl⟩

set_option maxRecDepth 100000 in
set_option maxHeartbeats 400000 in
theorem Bytes_3b (v : Int) (w : World) (h1 : 57343 < v) (h2 : v ≤ 65535) :
    Calls Tryd.prog 35 #[.int .i64 v] w fun e w' => e = .returned (.slice (some ⟨w.heap.size, 0, none⟩) 3 3) ∧ w' = w.alloc (.cells ([224 + v / 4096, 128 + v / 64 % 64, 128 + v % 64].flatMap encB).toArray 5) := by
  have q1 := and63 (v) (by omega) (by omega)
  have q2 := and63 (v / 64) (by omega) (by omega)
  have q3 := and63 (v / 4096) (by omega) (by omega)
  go_enter Tryd.func35, Tryd.ntmps35
  go_wp2
  all_goals go_ret
  all_goals exact ⟨rfl, rfl⟩

set_option maxRecDepth 100000 in
set_option maxHeartbeats 400000 in
theorem Bytes_4 (v : Int) (w : World) (h1 : 65536 ≤ v) (h2 : v ≤ 1114111) :
    Calls Tryd.prog 35 #[.int .i64 v] w fun e w' => e = .returned (.slice (some ⟨w.heap.size, 0, none⟩) 4 4) ∧ w' = w.alloc (.cells ([240 + v / 262144, 128 + v / 4096 % 64, 128 + v / 64 % 64, 128 + v % 64].flatMap encB).toArray 5) := by
  have q1 := and63 (v) (by omega) (by omega)
  have q2 := and63 (v / 64) (by omega) (by omega)
  have q3 := and63 (v / 4096) (by omega) (by omega)
  go_enter Tryd.func35, Tryd.ntmps35
  go_wp2
  all_goals go_ret
  all_goals exact ⟨rfl, rfl⟩

theorem Bytes_yes (v : Int) (w : World) (h : okv v) :
    Calls Tryd.prog 35 #[.int .i64 v] w fun e w' => ∃ x, e = .returned x ∧ Sl w' 1 encB x (encodeRuneZ v) ∧ Below w.heap.size w w' := by
  have key : ∀ (l : List Int) (n : Nat), encodeRuneZ v = l → n = l.length → n ≤ 4 → (Calls Tryd.prog 35 #[.int .i64 v] w fun e w' => e = .returned (.slice (some ⟨w.heap.size, 0, none⟩) n n) ∧ w' = w.alloc (.cells (l.flatMap encB).toArray 5)) →
      Calls Tryd.prog 35 #[.int .i64 v] w fun e w' => ∃ x, e = .returned x ∧ Sl w' 1 encB x (encodeRuneZ v) ∧ Below w.heap.size w w' := by
    intro l n hl hn h4 hc
    refine hc.mono fun e w' ⟨he, hw⟩ => ⟨_, he, ?_, ?_⟩
    · rw [hl, hw, hn]
      refine sl_of_block (World.alloc_heap_new w _) ?_ (fun _ _ => rfl) (Nat.le_refl _) (by unfold maxLen; omega)
      have : ∀ l : List Int, (l.flatMap encB).length = l.length * 1 := by
        intro l
        induction l with
        | nil => rfl
        | cons a l ih => rw [List.flatMap_cons, List.length_append, ih]; simp [encB]; omega
      simp only [← this l, List.take_length]
    · rw [hw]; exact (Below.refl _ w).alloc (Nat.le_refl _) _
  have h' := h
  obtain ⟨a1, a2, a3⟩ := h'
  rcases encZ_cases h with ⟨c, e⟩ | ⟨c1, c2, e⟩ | ⟨c1, c2, e⟩ | ⟨c, e⟩
  · exact key _ 1 e rfl (by decide) (Bytes_1 v w a1 c)
  · exact key _ 2 e rfl (by decide) (Bytes_2 v w c1 c2)
  · by_cases d : v < 55296
    · exact key _ 3 e rfl (by decide) (Bytes_3a v w c1 d)
    · exact key _ 3 e rfl (by decide) (Bytes_3b v w (by omega) c2)
  · exact key _ 4 e rfl (by decide) (Bytes_4 v w c a2)
end Go.Proofs.YtempicociampoaaDoor
namespace Go.Proofs.YtempicociampoaaDoor
open Go.Lib

def refn (b : Int) : Nat := if 240 ≤ b then 4 else if 224 ≤ b then 3 else if 192 ≤ b then 2 else 1
def refv0 (b : Int) : Int := if 240 ≤ b then b - 240 else if 224 ≤ b then b - 224 else if 192 ≤ b then b - 192 else b
/-- what is read off k + 1 bytes -/
def refv (l : List UInt8) : Nat → Int
  | 0 => refv0 (l.getD 0 0).toNat
  | k + 1 => refv l k * 64 + ((l.getD (k + 1) 0).toNat : Int) % 64

theorem refv_bd (l : List UInt8) : ∀ k : Nat, k ≤ 3 → 0 ≤ refv l k ∧ refv l k < 256 * 64 ^ k := by
  have b0 : (l.getD 0 0).toNat < 256 := UInt8.toNat_lt _
  have h0 : 0 ≤ refv l 0 ∧ refv l 0 < 256 := by
    unfold refv refv0
    split
    · omega
    · split
      · omega
      · split <;> omega
  intro k hk
  have h1 : 0 ≤ refv l 1 ∧ refv l 1 < 256 * 64 := by
    have : refv l 1 = refv l 0 * 64 + ((l.getD 1 0).toNat : Int) % 64 := rfl
    omega
  have h2 : 0 ≤ refv l 2 ∧ refv l 2 < 256 * 64 * 64 := by
    have : refv l 2 = refv l 1 * 64 + ((l.getD 2 0).toNat : Int) % 64 := rfl
    omega
  have h3 : 0 ≤ refv l 3 ∧ refv l 3 < 256 * 64 * 64 * 64 := by
    have : refv l 3 = refv l 2 * 64 + ((l.getD 3 0).toNat : Int) % 64 := rfl
    omega
  rcases (by omega : k = 0 ∨ k = 1 ∨ k = 2 ∨ k = 3) with rfl | rfl | rfl | rfl
  · simpa using h0
  · simpa using h1
  · simpa [Int.mul_assoc] using h2
  · simpa [Int.mul_assoc] using h3

/-- of a sign's bytes the reference reads the sign -/
theorem ref_enc {v : Int} (h : okv v) (t : List UInt8) :
    refn ((encodeRune v ++ t).getD 0 0).toNat = (encodeRune v).length ∧ refv (encodeRune v ++ t) ((encodeRune v).length - 1) = v := by
  have h' := h
  obtain ⟨h1, h2, h3⟩ := h'
  rcases encZ_cases h with ⟨c, e⟩ | ⟨c1, c2, e⟩ | ⟨c1, c2, e⟩ | ⟨c, e⟩
  · simp only [encodeRune, e, List.map_cons, List.map_nil, List.cons_append, List.nil_append, List.length_cons, List.length_nil, List.getD_cons_zero]
    rw [b8 (by omega) (by omega)]
    constructor
    · unfold refn; rw [if_neg (by omega), if_neg (by omega), if_neg (by omega)]
    · show refv0 (((v.toNat.toUInt8 :: t).getD 0 0).toNat : Nat) = v
      rw [List.getD_cons_zero, b8 (by omega) (by omega)]
      unfold refv0; rw [if_neg (by omega), if_neg (by omega), if_neg (by omega)]; omega
  · simp only [encodeRune, e, List.map_cons, List.map_nil, List.cons_append, List.nil_append, List.length_cons, List.length_nil, refv, List.getD_cons_zero, List.getD_cons_succ]
    rw [b8 (by omega) (by omega), b8 (by omega) (by omega)]
    constructor
    · unfold refn; rw [if_neg (by omega), if_neg (by omega), if_pos (by omega)]
    · unfold refv0; rw [if_neg (by omega), if_neg (by omega), if_pos (by omega)]; omega
  · simp only [encodeRune, e, List.map_cons, List.map_nil, List.cons_append, List.nil_append, List.length_cons, List.length_nil, refv, List.getD_cons_zero, List.getD_cons_succ]
    rw [b8 (by omega) (by omega), b8 (by omega) (by omega), b8 (by omega) (by omega)]
    constructor
    · unfold refn; rw [if_neg (by omega), if_pos (by omega)]
    · unfold refv0; rw [if_neg (by omega), if_pos (by omega)]; omega
  · simp only [encodeRune, e, List.map_cons, List.map_nil, List.cons_append, List.nil_append, List.length_cons, List.length_nil, refv, List.getD_cons_zero, List.getD_cons_succ]
    rw [b8 (by omega) (by omega), b8 (by omega) (by omega), b8 (by omega) (by omega), b8 (by omega) (by omega)]
    constructor
    · unfold refn; rw [if_pos (by omega)]
    · unfold refv0; rw [if_pos (by omega)]; omega

/-- the signs of a text; none, if it is not valid -/
noncomputable def sgn (l : List UInt8) : List Int := open Classical in if h : ∃ xs : List Int, (∀ x ∈ xs, okv x) ∧ l = txt xs then Classical.choose h else []
theorem sgn_of {l : List UInt8} {xs : List Int} (hx : ∀ x ∈ xs, okv x) (hl : l = txt xs) : sgn l = xs := by
  have h : ∃ xs : List Int, (∀ x ∈ xs, okv x) ∧ l = txt xs := ⟨xs, hx, hl⟩
  unfold sgn
  rw [dif_pos h]
  have h2 := Classical.choose_spec h
  exact txt_inj h2.1 hx (h2.2.symm.trans hl)
theorem sgn_no {l : List UInt8} (h : validD l = false) : sgn l = [] := by
  unfold sgn
  rw [dif_neg]
  intro h2
  have := (valid_iff l).2 h2
  rw [h] at this; cases this
theorem sgn_yes {l : List UInt8} (h : validD l = true) : (∀ x ∈ sgn l, okv x) ∧ l = txt (sgn l) := by
  obtain ⟨xs, hx, hl⟩ := (valid_iff l).1 h
  rw [sgn_of hx hl]; exact ⟨hx, hl⟩
end Go.Proofs.YtempicociampoaaDoor
namespace Go.Proofs.YtempicociampoaaDoor
open Go.Lib

theorem txt_split : ∀ {pre xs : List Int} {rest : List UInt8}, (∀ x ∈ pre, okv x) → (∀ x ∈ xs, okv x) → txt pre ++ rest = txt xs → ∃ ys, xs = pre ++ ys ∧ rest = txt ys
  | [], xs, rest, _, _, h => ⟨xs, rfl, h⟩
  | p :: pre, [], rest, hp, _, h => by
    have := (enc_len (hp p (by simp))).1
    have e := congrArg List.length h
    rw [txt_cons, List.length_append, List.length_append] at e
    have h3 : (txt []).length = 0 := rfl
    omega
  | p :: pre, x :: xs, rest, hp, hx, h => by
    rw [txt_cons, txt_cons, List.append_assoc] at h
    have d1 := dec_enc (hp p (by simp)) (txt pre ++ rest)
    have d2 := dec_enc (hx x (by simp)) (txt xs)
    rw [h, d2] at d1
    have e1 := congrArg Prod.fst d1
    dsimp only at e1
    have q1 := (hp p (by simp)).1
    have q2 := (hx x (by simp)).1
    have e : x = p := by omega
    subst e
    obtain ⟨ys, e2, e3⟩ := txt_split (fun y hy => hp y (by simp [hy])) (fun y hy => hx y (by simp [hy])) (List.append_cancel_left h)
    exact ⟨ys, by rw [e2]; rfl, e3⟩

theorem valid_app {pre : List Int} (hp : ∀ x ∈ pre, okv x) {rest : List UInt8} (h : validD rest = false) : validD (txt pre ++ rest) = false := by
  cases hv : validD (txt pre ++ rest) with
  | false => rfl
  | true =>
    obtain ⟨xs, hx, he⟩ := (valid_iff _).1 hv
    obtain ⟨ys, rfl, e2⟩ := txt_split hp hx he
    have := (valid_iff rest).2 ⟨ys, fun y hy => hx y (by simp [hy]), e2⟩
    rw [this] at h; cases h

/-- what the reference sees at the head of what is left -/
def refGood (l : List UInt8) : Prop := refn (l.getD 0 0).toNat ≤ l.length ∧ okv (refv l (refn (l.getD 0 0).toNat - 1)) ∧ encodeRune (refv l (refn (l.getD 0 0).toNat - 1)) = l.take (refn (l.getD 0 0).toNat)

theorem ref_bad {l : List UInt8} (hl : l ≠ []) (h : ¬ refGood l) : validD l = false := by
  cases hv : validD l with
  | false => rfl
  | true =>
    obtain ⟨xs, hx, he⟩ := (valid_iff _).1 hv
    match xs, hx, he with
    | [], _, he => exact absurd he hl
    | x :: xs, hx, he =>
      rw [txt_cons] at he
      obtain ⟨h1, h2⟩ := ref_enc (hx x (by simp)) (txt xs)
      rw [← he] at h1 h2
      refine absurd ⟨?_, ?_, ?_⟩ h
      · rw [h1, he]; simp
      · rw [h1, h2]; exact hx x (by simp)
      · rw [h1, h2, he]; simp

theorem refn_cases (b : Int) : (refn b = 4 ∧ 240 ≤ b ∧ refv0 b = b - 240) ∨ (refn b = 3 ∧ ¬ 240 ≤ b ∧ 224 ≤ b ∧ refv0 b = b - 224) ∨
    (refn b = 2 ∧ ¬ 240 ≤ b ∧ ¬ 224 ≤ b ∧ 192 ≤ b ∧ refv0 b = b - 192) ∨ (refn b = 1 ∧ ¬ 240 ≤ b ∧ ¬ 224 ≤ b ∧ ¬ 192 ≤ b ∧ refv0 b = b) := by
  unfold refn refv0
  by_cases h1 : 240 ≤ b
  · exact .inl ⟨by rw [if_pos h1], h1, by rw [if_pos h1]⟩
  · by_cases h2 : 224 ≤ b
    · exact .inr (.inl ⟨by rw [if_neg h1, if_pos h2], h1, h2, by rw [if_neg h1, if_pos h2]⟩)
    · by_cases h3 : 192 ≤ b
      · exact .inr (.inr (.inl ⟨by rw [if_neg h1, if_neg h2, if_pos h3], h1, h2, h3, by rw [if_neg h1, if_neg h2, if_pos h3]⟩))
      · exact .inr (.inr (.inr ⟨by rw [if_neg h1, if_neg h2, if_neg h3], h1, h2, h3, by rw [if_neg h1, if_neg h2, if_neg h3]⟩))
end Go.Proofs.YtempicociampoaaDoor
