/- The walk of the reference's Bytes (by gen_utfd.py). Validity behind a prefix; when the reference stops. The walk of the reference's Signs. -/
import Derived.Test.YtjkfefjfmocekaaDoorUtfB
import Derived.Test.YtjkfefjfmocekaaDoorUtfQ
import Derived.Deep.RegionHeld3
import Derived.Deep.DeepCutAuto
import Derived.Deep.CutBlock
namespace Go.Proofs.YtjkfefjfmocekaaDoor
open Go.RowKit Go.Lib

def encB (n : Int) : List Value := [.int .u8 n]

theorem and63 (v : Int) (h0 : 0 ≤ v) (h1 : v < 2 ^ 62) : bits BinOp.and IntKind.i64 v 63 = v % 64 := by
  have h := bits_mask .i64 62 (by decide) (fun n h0 h1 => by rw [IntKind.wrap_i64]; omega) 6 (by decide) v h0 h1
  have e : ((2 : Int) ^ 6 - 1) = 63 := by decide
  have e2 : ((2 : Int) ^ 6) = 64 := by decide
  rw [e, e2] at h
  exact h

/-- the reference's bytes of a code point; none: it is none -/
def rbytes (v : Int) : List Int := if okv v then encodeRuneZ v else []

end Go.Proofs.YtjkfefjfmocekaaDoor
namespace Go.Proofs.YtjkfefjfmocekaaDoor
open Go.Lib

theorem txt_split : ∀ {pre xs : List Int} {rest : List UInt8}, (∀ x ∈ pre, okv x) → (∀ x ∈ xs, okv x) → txt pre ++ rest = txt xs → ∃ ys, xs = pre ++ ys ∧ rest = txt ys
  | [], xs, rest, _, _, h => ⟨xs, rfl, h⟩
  | p :: pre, [], rest, hp, _, h => by
    have := (enc_len (hp p (by simp))).1
    have e := congrArg List.length h
    rw [txt_cons, List.length_append, List.length_append] at e
    have h3 : (txt []).length = 0 := rfl
    omega
  | p :: pre, x :: xs, rest, hp, hx, h => by
    rw [txt_cons, txt_cons, List.append_assoc] at h
    have d1 := dec_enc (hp p (by simp)) (txt pre ++ rest)
    have d2 := dec_enc (hx x (by simp)) (txt xs)
    rw [h, d2] at d1
    have e1 := congrArg Prod.fst d1
    dsimp only at e1
    have q1 := (hp p (by simp)).1
    have q2 := (hx x (by simp)).1
    have e : x = p := by omega
    subst e
    obtain ⟨ys, e2, e3⟩ := txt_split (fun y hy => hp y (by simp [hy])) (fun y hy => hx y (by simp [hy])) (List.append_cancel_left h)
    exact ⟨ys, by rw [e2]; rfl, e3⟩

theorem valid_app {pre : List Int} (hp : ∀ x ∈ pre, okv x) {rest : List UInt8} (h : validD rest = false) : validD (txt pre ++ rest) = false := by
  cases hv : validD (txt pre ++ rest) with
  | false => rfl
  | true =>
    obtain ⟨xs, hx, he⟩ := (valid_iff _).1 hv
    obtain ⟨ys, rfl, e2⟩ := txt_split hp hx he
    have := (valid_iff rest).2 ⟨ys, fun y hy => hx y (by simp [hy]), e2⟩
    rw [this] at h; cases h

/-- what the reference sees at the head of what is left -/
def refGood (l : List UInt8) : Prop := refn (l.getD 0 0).toNat ≤ l.length ∧ okv (refv l (refn (l.getD 0 0).toNat - 1)) ∧ encodeRune (refv l (refn (l.getD 0 0).toNat - 1)) = l.take (refn (l.getD 0 0).toNat)

theorem ref_bad {l : List UInt8} (hl : l ≠ []) (h : ¬ refGood l) : validD l = false := by
  cases hv : validD l with
  | false => rfl
  | true =>
    obtain ⟨xs, hx, he⟩ := (valid_iff _).1 hv
    match xs, hx, he with
    | [], _, he => exact absurd he hl
    | x :: xs, hx, he =>
      rw [txt_cons] at he
      obtain ⟨h1, h2⟩ := ref_enc (hx x (by simp)) (txt xs)
      rw [← he] at h1 h2
      refine absurd ⟨?_, ?_, ?_⟩ h
      · rw [h1, he]; simp
      · rw [h1, h2]; exact hx x (by simp)
      · rw [h1, h2, he]; simp

theorem refn_cases (b : Int) : (refn b = 4 ∧ 240 ≤ b ∧ refv0 b = b - 240) ∨ (refn b = 3 ∧ ¬ 240 ≤ b ∧ 224 ≤ b ∧ refv0 b = b - 224) ∨
    (refn b = 2 ∧ ¬ 240 ≤ b ∧ ¬ 224 ≤ b ∧ 192 ≤ b ∧ refv0 b = b - 192) ∨ (refn b = 1 ∧ ¬ 240 ≤ b ∧ ¬ 224 ≤ b ∧ ¬ 192 ≤ b ∧ refv0 b = b) := by
  unfold refn refv0
  by_cases h1 : 240 ≤ b
  · exact .inl ⟨by rw [if_pos h1], h1, by rw [if_pos h1]⟩
  · by_cases h2 : 224 ≤ b
    · exact .inr (.inl ⟨by rw [if_neg h1, if_pos h2], h1, h2, by rw [if_neg h1, if_pos h2]⟩)
    · by_cases h3 : 192 ≤ b
      · exact .inr (.inr (.inl ⟨by rw [if_neg h1, if_neg h2, if_pos h3], h1, h2, h3, by rw [if_neg h1, if_neg h2, if_pos h3]⟩))
      · exact .inr (.inr (.inr ⟨by rw [if_neg h1, if_neg h2, if_neg h3], h1, h2, h3, by rw [if_neg h1, if_neg h2, if_neg h3]⟩))
end Go.Proofs.YtjkfefjfmocekaaDoor
namespace Go.Proofs.YtjkfefjfmocekaaDoor
open Go.RowKit Go.Lib

theorem conv_sl {w : World} {x : Value} {l : List Int} (h : Sl w 1 encB x l) : (convert 46 9 x).run Tryd.prog w = .ok (.string (strOfNums l)) w := by
  rcases h with ⟨rfl, rfl⟩ | ⟨⟨b, o, sp⟩, cap, rfl, h1, h2, h3, h4⟩
  · exact run_convert_bytes_nil w _ 5 (by kernel_rfl) (by kernel_rfl) 0 0 _ (by kernel_rfl)
  · by_cases hl : l = []
    · subst hl
      rw [run_convert_bytes_string w _ _ 5 _ _ _ (by kernel_rfl) (by kernel_rfl) (by kernel_rfl)]
      have := run_bytesToString (P := Tryd.prog) w ⟨b, o, sp⟩ 0 cap [] (by simp [loadCells, loadCellsFrom, Sem.run_pure])
      exact this
    · obtain rfl : sp = none := h3 hl
      refine run_convert_bytes_arg w _ 5 (by kernel_rfl) (by kernel_rfl) b o _ cap l rfl ?_ _ (by kernel_rfl)
      intro i hi
      have h5 := h4 i l[i] (List.getElem?_eq_getElem hi)
      have h6 := rangeAt_one h5
      simpa [List.getD_eq_getElem?_getD, List.getElem?_eq_getElem hi] using h6

theorem own_base {W : World} {base : Nat} {e : TypeId} {size : Nat} {v : Value} {n : Nat} {xs : List Value} (h : W.ownsRow base e size v n xs) {j : Nat} (hj : v.ownBlock = some j) : base ≤ j := by
  rcases h.2 with ⟨rfl, _⟩ | ⟨g, cap, cur, rfl, hg, _⟩
  · simp [Value.ownBlock] at hj
  · simp [Value.ownBlock] at hj; omega

/-- the test of a round: is what is read the text's own? -/
theorem test_eq {s : ByteArray} {pre : List Int} {rest : List UInt8} {k : Nat} (hsp : s.data.toList = txt pre ++ rest) (hr : rest ≠ []) (hre : refn (rest.getD 0 0).toNat = k)
    (hk1 : 1 ≤ k) (hk : k ≤ rest.length) : (!(strOfNums (rbytes (refv rest (k - 1)))).toList == (s.extract (txt pre).length ((txt pre).length + k)).toList) = true ↔ ¬ refGood rest := by
  have e1 : (s.extract (txt pre).length ((txt pre).length + k)).toList = rest.take k := by
    rw [Lib.toList_data, ByteArray.data_extract, Array.toList_extract, hsp]
    simp [List.extract, List.drop_append]
  have e2 : (strOfNums (rbytes (refv rest (k - 1)))).toList = if okv (refv rest (k - 1)) then encodeRune (refv rest (k - 1)) else [] := by
    rw [Lib.toList_data, strOfNums_data]
    unfold rbytes
    split <;> rfl
  rw [e1, e2]
  unfold refGood
  rw [hre]
  have hne : rest.take k ≠ [] := by
    intro h
    rcases List.take_eq_nil_iff.1 h with h | h
    · omega
    · exact hr h
  by_cases ho : okv (refv rest (k - 1))
  · by_cases he : encodeRune (refv rest (k - 1)) = rest.take k
    · simp [ho, he, hk]
    · simp [ho, he]
  · simp [ho]; exact ⟨by omega, hr⟩

theorem len_txt : ∀ {ys : List Int}, (∀ y ∈ ys, okv y) → ys.length ≤ (txt ys).length
  | [], _ => Nat.le_refl _
  | y :: ys, h => by
    have h1 := len_txt (fun z hz => h z (by simp [hz]) : ∀ z ∈ ys, okv z)
    have h2 := (enc_len (h y (by simp))).1
    rw [txt_cons, List.length_append, List.length_cons]
    omega

theorem set2 {w : World} {b : Nat} {x y a c : Value} {t : TypeId} (h : w.heap[b]? = some (.cells #[a, c] t (0, 0))) :
    ((w.setCell ⟨b, 0, none⟩ x).setCell ⟨b, 1, none⟩ y).heap[b]? = some (.cells #[x, y] t (0, 0)) := by
  obtain ⟨hb, he⟩ := Array.getElem?_eq_some_iff.1 h
  simp [World.setCell, hb, Array.getElem_modify, he]

theorem below2 {w : World} {n b : Nat} {x y : Value} (h : n ≤ b) : Below n w ((w.setCell ⟨b, 0, none⟩ x).setCell ⟨b, 1, none⟩ y) :=
  ((Below.refl n w).setCell (p := ⟨b, 0, none⟩) h x).setCell (p := ⟨b, 1, none⟩) h y

end Go.Proofs.YtjkfefjfmocekaaDoor
