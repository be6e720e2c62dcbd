/- Plain laws of ScriptOps. -/
import Derived.Test.YtkmnmigpnbehaaaDoorScT
namespace Go.Proofs.YtkmnmigpnbehaaaDoor
open Go.RowKit Go.Shelf Go.Lib

def pubF : Int × L8 × L8 := (1, [112, 117, 98, 108, 105, 115, 104], [82, 87, 72, 84, 67, 73, 88])
theorem pub_mem : pubF ∈ formsL := by unfold pubF formsL; exact List.mem_cons_self
theorem hex_len (s : L8) (h : s ≠ []) : (hexS s).length = 2 * s.length := by
  unfold hexS
  rw [if_neg h, hx_len]
/-- the line of a publish: as long as its bytes are few -/
theorem pub_line (x : Op8) (hk : x.kind = 1) (hn : ∀ c ∈ lets, 0 ≤ getF x c ∧ getF x c ≤ 65535) (ho : x.other = 0) (hN : x.n = 0) :
    lineS (spellS pubF x) = if x.src.length ≤ 240 then some x else none := by
  by_cases h : x.src.length ≤ 240
  · rw [if_pos h]
    refine line_spell pub_mem ⟨hk, fun c _ hc => hn c hc, fun _ => h, fun c hc hm => ?_, fun hm => absurd (show (88 : UInt8) ∈ pubF.2.2 by decide) hm⟩
    rcases lets_cases hc with rfl | rfl | rfl | rfl | rfl | rfl | rfl | rfl
    · exact absurd (show (82 : UInt8) ∈ pubF.2.2 by decide) hm
    · exact ho
    · exact hN
    · exact absurd (show (87 : UInt8) ∈ pubF.2.2 by decide) hm
    · exact absurd (show (72 : UInt8) ∈ pubF.2.2 by decide) hm
    · exact absurd (show (84 : UInt8) ∈ pubF.2.2 by decide) hm
    · exact absurd (show (67 : UInt8) ∈ pubF.2.2 by decide) hm
    · exact absurd (show (73 : UInt8) ∈ pubF.2.2 by decide) hm
  · rw [if_neg h]
    cases e : lineS (spellS pubF x) with
    | none => rfl
    | some y =>
      exfalso
      have e2 : lineW (wordsOf pubF x) = some y := by
        unfold lineS at e
        rwa [spell_cut pub_mem] at e
      obtain ⟨g, hg, hw, hfit⟩ := line_some e2
      have hn2 : pubF.2.1 = g.2.1 := by
        unfold wordsOf at hw
        exact (List.cons.inj hw).1
      obtain rfl := forms_apart _ pub_mem g hg (.inr hn2)
      have h7 := congrArg (fun l => l[7]?) hw
      have h8 : hexS x.src = hexS y.src := by
        have : some (hexS x.src) = some (hexS y.src) := h7
        exact Option.some.inj this
      have h9 := (fits_ok hfit).2
      have h10 := congrArg List.length h8
      rw [hex_len _ (by intro e3; rw [e3] at h; simp at h)] at h10
      by_cases hy : y.src = []
      · rw [hy] at h10
        have : (hexS ([] : L8)).length = 1 := rfl
        omega
      · rw [hex_len _ hy] at h10
        omega
theorem pub_text (m0 m1 m2 m3 m4 m5 : Nat) (b : L8) :
    [112, 117, 98, 108, 105, 115, 104] ++ ([m0, m1, m2, m3, m4, m5].flatMap fun m => 32 :: decDigits m) ++ [32] ++ hexS b = spellS pubF ⟨1, m0, 0, 0, b, m1, m2, m3, m4, m5⟩ := by
  simp [spellS, pubF, wordsOf, sayS, getF, joinB, itoa_nonneg]

/-- the seven lines -/
structure Row7 (m0 m1 : Nat) (k : Nat) (T : L8) (X : Op8) : Prop where
  kind : X.kind = (k : Int) + 2
  line : lineS T = some X
  more : lineS (T ++ [32, 49, 32, 50, 32, 51]) = none
  rev : (k < 2 ∨ k = 3) → X.rev = m0
  num : k = 1 → X.n = m1
  other : k = 3 → X.other = m1
theorem row_of {m0 m1 k : Nat} {f : Int × L8 × L8} (hf : f ∈ formsL) {T : L8} {X : Op8} (hk : X.kind = (k : Int) + 2) (hT : T = spellS f X) (hfit : fits f X) (h1 : (k < 2 ∨ k = 3) → X.rev = m0) (h2 : k = 1 → X.n = m1) (h3 : k = 3 → X.other = m1) : Row7 m0 m1 k T X := by
  refine ⟨hk, by rw [hT]; exact line_spell hf hfit, ?_, h1, h2, h3⟩
  rw [hT]
  exact line_more hf X [49, 32, 50, 32, 51]
def line7 (m0 m1 : Nat) : List L8 :=
  [[99, 104, 101, 99, 107, 111, 117, 116, 32] ++ decDigits m0, [112, 97, 103, 101, 32] ++ decDigits m0 ++ [32] ++ decDigits m1, [108, 111, 103], [100, 105, 102, 102, 32] ++ decDigits m0 ++ [32] ++ decDigits m1,
   [100, 101, 108, 101, 116, 101, 32] ++ decDigits m0, [99, 111, 108, 108, 101, 99, 116], [115, 116, 97, 116]]
def op7 (m0 m1 : Nat) : List Op8 :=
  [⟨2, m0, 0, 0, [], 0, 0, 0, 0, 0⟩, ⟨3, m0, 0, m1, [], 0, 0, 0, 0, 0⟩, ⟨4, 0, 0, 0, [], 0, 0, 0, 0, 0⟩, ⟨5, m0, m1, 0, [], 0, 0, 0, 0, 0⟩, ⟨6, m0, 0, 0, [], 0, 0, 0, 0, 0⟩, ⟨7, 0, 0, 0, [], 0, 0, 0, 0, 0⟩, ⟨8, 0, 0, 0, [], 0, 0, 0, 0, 0⟩]
theorem fits_small {f : Int × L8 × L8} {X : Op8} (hk : X.kind = f.1) (hs : X.src = []) (hn : ∀ c ∈ lets, 0 ≤ getF X c ∧ getF X c ≤ 65535) (h0 : ∀ c ∈ lets, c ∉ f.2.2 → getF X c = 0) : fits f X :=
  ⟨hk, fun c _ hc => hn c hc, fun _ => by rw [hs]; decide, h0, fun _ => hs⟩
theorem rows7 (m0 m1 : Nat) (h0 : m0 ≤ 65535) (h1 : m1 ≤ 65535) : ∀ k, k < 7 → ∃ T X, (line7 m0 m1)[k]? = some T ∧ (op7 m0 m1)[k]? = some X ∧ Row7 m0 m1 k T X := by
  intro k hk
  have hb : ∀ X ∈ op7 m0 m1, ∀ c ∈ lets, 0 ≤ getF X c ∧ getF X c ≤ 65535 := by
    intro X hX c hc
    simp only [op7, List.mem_cons, List.not_mem_nil, or_false] at hX
    rcases hX with rfl | rfl | rfl | rfl | rfl | rfl | rfl <;> rcases lets_cases hc with rfl | rfl | rfl | rfl | rfl | rfl | rfl | rfl <;> simp [getF] <;> omega
  match k, hk with
  | 0, _ => exact ⟨_, _, rfl, rfl, row_of (f := (2, [99, 104, 101, 99, 107, 111, 117, 116], [82])) (by decide +kernel) rfl (by simp [spellS, wordsOf, sayS, getF, joinB, itoa_nonneg]) (fits_small rfl rfl (hb _ (by simp [op7])) (by intro c hc hm; rcases lets_cases hc with rfl | rfl | rfl | rfl | rfl | rfl | rfl | rfl <;> simp [getF] at hm ⊢)) (fun _ => rfl) (by omega) (by omega)⟩
  | 1, _ => exact ⟨_, _, rfl, rfl, row_of (f := (3, [112, 97, 103, 101], [82, 78])) (by decide +kernel) rfl (by simp [spellS, wordsOf, sayS, getF, joinB, itoa_nonneg]) (fits_small rfl rfl (hb _ (by simp [op7])) (by intro c hc hm; rcases lets_cases hc with rfl | rfl | rfl | rfl | rfl | rfl | rfl | rfl <;> simp [getF] at hm ⊢)) (fun _ => rfl) (fun _ => rfl) (by omega)⟩
  | 2, _ => exact ⟨_, _, rfl, rfl, row_of (f := (4, [108, 111, 103], [])) (by decide +kernel) rfl (by simp [spellS, wordsOf, joinB]) (fits_small rfl rfl (hb _ (by simp [op7])) (by intro c hc hm; rcases lets_cases hc with rfl | rfl | rfl | rfl | rfl | rfl | rfl | rfl <;> simp [getF] at hm ⊢)) (by omega) (by omega) (by omega)⟩
  | 3, _ => exact ⟨_, _, rfl, rfl, row_of (f := (5, [100, 105, 102, 102], [82, 79])) (by decide +kernel) rfl (by simp [spellS, wordsOf, sayS, getF, joinB, itoa_nonneg]) (fits_small rfl rfl (hb _ (by simp [op7])) (by intro c hc hm; rcases lets_cases hc with rfl | rfl | rfl | rfl | rfl | rfl | rfl | rfl <;> simp [getF] at hm ⊢)) (fun _ => rfl) (by omega) (fun _ => rfl)⟩
  | 4, _ => exact ⟨_, _, rfl, rfl, row_of (f := (6, [100, 101, 108, 101, 116, 101], [82])) (by decide +kernel) rfl (by simp [spellS, wordsOf, sayS, getF, joinB, itoa_nonneg]) (fits_small rfl rfl (hb _ (by simp [op7])) (by intro c hc hm; rcases lets_cases hc with rfl | rfl | rfl | rfl | rfl | rfl | rfl | rfl <;> simp [getF] at hm ⊢)) (by omega) (by omega) (by omega)⟩
  | 5, _ => exact ⟨_, _, rfl, rfl, row_of (f := (7, [99, 111, 108, 108, 101, 99, 116], [])) (by decide +kernel) rfl (by simp [spellS, wordsOf, joinB]) (fits_small rfl rfl (hb _ (by simp [op7])) (by intro c hc hm; rcases lets_cases hc with rfl | rfl | rfl | rfl | rfl | rfl | rfl | rfl <;> simp [getF] at hm ⊢)) (by omega) (by omega) (by omega)⟩
  | 6, _ => exact ⟨_, _, rfl, rfl, row_of (f := (8, [115, 116, 97, 116], [])) (by decide +kernel) rfl (by simp [spellS, wordsOf, joinB]) (fits_small rfl rfl (hb _ (by simp [op7])) (by intro c hc hm; rcases lets_cases hc with rfl | rfl | rfl | rfl | rfl | rfl | rfl | rfl <;> simp [getF] at hm ⊢)) (by omega) (by omega) (by omega)⟩
  | k + 7, h => omega

/-- bytes that came in as numbers -/
theorem sl_bytes {w : World} {v : Value} {bl : List Int} (h : Sl w 1 (fun x : Int => [Value.int .u8 x]) v bl) (hb : ∀ x ∈ bl, 0 ≤ x ∧ x ≤ 255) : ∃ bb : L8, bb.length = bl.length ∧ Sl w 1 encB v bb := by
  have hm : (bl.map fun x => UInt8.ofNat x.toNat).map (fun c => (c.toNat : Int)) = bl := by
    rw [List.map_map]
    conv => rhs; rw [← List.map_id bl]
    refine List.map_congr_left fun x hx => ?_
    have := hb x hx
    show ((UInt8.ofNat x.toNat).toNat : Int) = x
    rw [UInt8.toNat_ofNat']
    omega
  refine ⟨bl.map fun x => UInt8.ofNat x.toNat, by simp, ?_⟩
  rcases h with ⟨h1, h2⟩ | ⟨a, cap, h1, h2, h3, h4, h5⟩
  · exact .inl ⟨h1, by rw [h2]; rfl⟩
  · refine .inr ⟨a, cap, by rw [h1]; simp, by simpa using h2, h3, fun hne => h4 (by rintro rfl; exact hne rfl), fun i c hc => ?_⟩
    have hx : bl[i]? = some (c.toNat : Int) := by
      rw [← hm, List.getElem?_map, hc]; rfl
    exact h5 i _ hx
theorem conv_bytes {w : World} {v : Value} {l : L8} (h : Sl w 1 encB v l) : (convert 41 9 v).run Tryd.prog w = .ok (.string ⟨l.toArray⟩) w := by
  rcases h with ⟨rfl, rfl⟩ | ⟨⟨b, o, sp⟩, cap, rfl, h1, h2, h3, h4⟩
  · exact run_convert_bytes_nil w _ 5 (by kernel_rfl) (by kernel_rfl) 0 0 _ (by kernel_rfl)
  · refine run_convert_bytes_back (P := Tryd.prog) w 41 9 5 ⟨b, o, sp⟩ cap l Tryd.underlying41 Tryd.underlying5 Tryd.underlying9 (fun j hj => ?_)
    obtain rfl : sp = none := h3 (by rintro rfl; simp at hj)
    have := rangeAt_one (h4 j l[j] (List.getElem?_eq_getElem hj))
    rw [Nat.mul_one] at this
    rw [Lib.add_plain]
    exact this
end Go.Proofs.YtkmnmigpnbehaaaDoor
