/- Plain laws of Script: numbers, bytes, lines. -/
import Derived.Test.YtkmnmigpnbehaaaDoorMkP
import Derived.Lib.ItoaNum
import Derived.Lib.ParseIntB
namespace Go.Proofs.YtkmnmigpnbehaaaDoor
open Go.Lib

/-- strconv's number of a word, where the word is its numeral -/
def numS (w : L8) : Option Nat := match parseUintB 16 w with | .ok n => if decDigits n = w then some n else none | _ => none
theorem parse_app (M acc : Nat) (a b : L8) : parseUintM M acc (a ++ b) = match parseUintM M acc a with | .ok v => parseUintM M v b | e => e := by
  induction a generalizing acc with
  | nil => rfl
  | cons c r ih =>
    rw [List.cons_append, parseUintM, parseUintM]
    split
    · split
      · rfl
      · split
        · rfl
        · exact ih _
    · rfl
theorem parse_le {M acc v : Nat} {l : L8} (ha : acc ≤ M) (h : parseUintM M acc l = .ok v) : v ≤ M := by
  induction l generalizing acc with
  | nil => rw [parseUintM] at h; cases h; exact ha
  | cons c r ih =>
    rw [parseUintM] at h
    split at h
    · split at h
      · cases h
      · split at h
        · cases h
        · exact ih (by omega) h
    · cases h
theorem parse_digit {M acc d : Nat} (hd : d < 10) (hM : M < 1844674407370955162) (h : acc * 10 + d ≤ M) : parseUintM M acc [UInt8.ofNat (48 + d)] = .ok (acc * 10 + d) := by
  have e : (UInt8.ofNat (48 + d)).toNat = 48 + d := by
    rw [UInt8.toNat_ofNat']; omega
  rw [parseUintM, e, if_pos (by omega), if_neg (by omega), show 48 + d - 48 = d by omega, if_neg (by omega), parseUintM]
theorem parse_dec {M : Nat} (hM : M < 1844674407370955162) (n : Nat) (hn : n ≤ M) : parseUintM M 0 (decDigits n) = .ok n := by
  induction n using Nat.strongRecOn with
  | ind n ih =>
    rw [decDigits]
    split
    · rename_i h
      have := parse_digit (M := M) (acc := 0) h hM (by omega)
      rw [this]; simp
    · rename_i h
      rw [parse_app, ih (n / 10) (by omega) (by omega)]
      have := parse_digit (M := M) (acc := n / 10) (d := n % 10) (by omega) hM (by omega)
      show parseUintM M (n / 10) _ = _
      rw [this]
      congr 1; omega
theorem dec_ne (n : Nat) : decDigits n ≠ [] := by
  rw [decDigits]; split <;> simp
theorem dec_digit {n : Nat} {b : UInt8} (h : b ∈ decDigits n) : 48 ≤ b.toNat ∧ b.toNat ≤ 57 := by
  induction n using Nat.strongRecOn with
  | ind n ih =>
    rw [decDigits] at h
    split at h
    · obtain rfl := List.mem_singleton.1 h
      rw [UInt8.toNat_ofNat']; omega
    · rcases List.mem_append.1 h with h | h
      · exact ih (n / 10) (by omega) h
      · obtain rfl := List.mem_singleton.1 h
        rw [UInt8.toNat_ofNat']; omega
theorem num_dec {n : Nat} (h : n ≤ 65535) : numS (decDigits n) = some n := by
  unfold numS parseUintB
  rw [if_neg (dec_ne n), parse_dec (by decide) n h]
  simp
theorem num_some {w : L8} {n : Nat} (h : numS w = some n) : n ≤ 65535 ∧ decDigits n = w := by
  unfold numS parseUintB at h
  split at h
  · rename_i m hm
    split at h
    · rename_i hd
      cases h
      split at hm
      · cases hm
      · exact ⟨parse_le (M := 65535) (Nat.zero_le _) hm, hd⟩
    · cases h
  · cases h

/-- a hexadecimal digit -/
def dig (k : Nat) : UInt8 := if k < 10 then UInt8.ofNat (48 + k) else UInt8.ofNat (87 + k)
def hexv (c : UInt8) : Option Nat := if 48 ≤ c.toNat ∧ c.toNat ≤ 57 then some (c.toNat - 48) else if 97 ≤ c.toNat ∧ c.toNat ≤ 102 then some (c.toNat - 87) else none
theorem hexv_dig {k : Nat} (h : k < 16) : hexv (dig k) = some k := by
  have : ∀ k, k < 16 → hexv (dig k) = some k := by decide +kernel
  exact this k h
theorem dig_hexv {c : UInt8} {k : Nat} (h : hexv c = some k) : k < 16 ∧ dig k = c := by
  unfold hexv at h
  split at h
  · cases h
    refine ⟨by omega, ?_⟩
    unfold dig
    rw [if_pos (by omega)]
    apply UInt8.toNat_inj.1
    rw [UInt8.toNat_ofNat']; omega
  · split at h
    · cases h
      refine ⟨by omega, ?_⟩
      unfold dig
      rw [if_neg (by omega)]
      apply UInt8.toNat_inj.1
      rw [UInt8.toNat_ofNat']; omega
    · cases h
def hx (c : UInt8) : L8 := [dig (c.toNat / 16), dig (c.toNat % 16)]
def unhexL : L8 → Option L8
  | [] => some []
  | [_] => none
  | a :: b :: r => (hexv a).bind fun x => (hexv b).bind fun y => (unhexL r).map fun t => UInt8.ofNat (16 * x + y) :: t
theorem unhex_hex (s : L8) : unhexL (s.flatMap hx) = some s := by
  induction s with
  | nil => rfl
  | cons c r ih =>
    have hc := c.toNat_lt
    show (hexv (dig (c.toNat / 16))).bind (fun x => (hexv (dig (c.toNat % 16))).bind fun y => (unhexL (r.flatMap hx)).map fun t => UInt8.ofNat (16 * x + y) :: t) = _
    rw [hexv_dig (by omega), hexv_dig (by omega), ih]
    show some (UInt8.ofNat (16 * (c.toNat / 16) + c.toNat % 16) :: r) = _
    rw [show 16 * (c.toNat / 16) + c.toNat % 16 = c.toNat by omega]
    simp
theorem hex_unhex : ∀ (w b : L8), unhexL w = some b → b.flatMap hx = w
  | [], b, h => by cases h; rfl
  | [_], b, h => by cases h
  | a :: c :: r, b, h => by
    rw [unhexL] at h
    obtain ⟨x, h1, h⟩ := Option.bind_eq_some_iff.1 h
    obtain ⟨y, h2, h⟩ := Option.bind_eq_some_iff.1 h
    obtain ⟨t, h3, h⟩ := Option.map_eq_some_iff.1 h
    subst h
    obtain ⟨k1, k2⟩ := dig_hexv h1
    obtain ⟨k3, k4⟩ := dig_hexv h2
    have e : (UInt8.ofNat (16 * x + y)).toNat = 16 * x + y := by rw [UInt8.toNat_ofNat']; omega
    rw [List.flatMap_cons, hex_unhex r t h3]
    unfold hx
    rw [e, show (16 * x + y) / 16 = x by omega, show (16 * x + y) % 16 = y by omega, k2, k4]
    rfl
theorem unhex_len : ∀ (w b : L8), unhexL w = some b → w.length = 2 * b.length
  | w, b, h => by
    have := hex_unhex w b h
    rw [← this]
    clear h this
    induction b with
    | nil => rfl
    | cons c r ih => rw [List.flatMap_cons, List.length_append, ih]; simp [hx]; omega
/-- a text of hexadecimal digits -/
def textS (w : L8) : Option L8 := if w = [45] then some [] else if w = [] ∨ w.length % 2 ≠ 0 ∨ 480 < w.length then none else unhexL w
def hexS (s : L8) : L8 := if s = [] then [45] else s.flatMap hx
theorem text_hex {s : L8} (h : s.length ≤ 240) : textS (hexS s) = some s := by
  unfold hexS textS
  by_cases h0 : s = []
  · rw [if_pos h0, if_pos rfl, h0]
  · rw [if_neg h0]
    have e := unhex_hex s
    have l := unhex_len _ _ e
    have hp : 1 ≤ s.length := List.length_pos_iff.2 h0
    rw [if_neg (fun h => by rw [h] at l; simp at l; omega), if_neg ?_, e]
    rintro (h | h | h)
    · rw [h] at l; simp at l; omega
    · omega
    · omega
theorem hex_text {w s : L8} (h : textS w = some s) : s.length ≤ 240 ∧ hexS s = w := by
  unfold textS at h
  split at h
  · rename_i hw
    cases h
    exact ⟨by simp, by rw [hw]; rfl⟩
  · split at h
    · cases h
    · rename_i h1 h2
      have l := unhex_len _ _ h
      have e := hex_unhex _ _ h
      unfold hexS
      rw [if_neg ?_, e]
      · exact ⟨by omega, rfl⟩
      · rintro rfl
        exact h2 (.inl (by rw [← e]; rfl))
theorem hexS_blank (s : L8) : (32 : UInt8) ∉ hexS s := by
  unfold hexS
  split
  · decide
  · intro h
    obtain ⟨c, -, hc⟩ := List.mem_flatMap.1 h
    have hd : ∀ k, k < 16 → dig k ≠ 32 := by decide +kernel
    have hl := c.toNat_lt
    unfold hx at hc
    simp only [List.mem_cons, List.not_mem_nil, or_false] at hc
    rcases hc with hc | hc
    · exact hd _ (by omega) hc.symm
    · exact hd _ (by omega) hc.symm
theorem hexS_ne (s : L8) : hexS s ≠ [] := by
  unfold hexS
  split
  · simp
  · rename_i h
    cases s with
    | nil => exact absurd rfl h
    | cons c r => simp [hx]
theorem itoa_blank (n : Int) : (32 : UInt8) ∉ itoa n := by
  unfold itoa
  intro h
  split at h
  · rcases List.mem_cons.1 h with h | h
    · exact absurd h (by decide)
    · have := dec_digit h; simp at this
  · have := dec_digit h; simp at this
/-- words that hold no blank: cut where they were joined -/
theorem cut_join : ∀ {ws : List L8}, ws ≠ [] → (∀ w ∈ ws, (32 : UInt8) ∉ w) → cutB 32 (joinB [32] ws) = ws := by
  intro ws
  induction ws with
  | nil => intro h; exact absurd rfl h
  | cons x r ih =>
    intro _ h
    cases r with
    | nil => exact cutB_none (h x List.mem_cons_self)
    | cons y r =>
      rw [joinB_cons _ _ (by simp), List.append_assoc, List.singleton_append, cutB_hit _ (h x List.mem_cons_self), ih (by simp) fun w hw => h w (List.mem_cons_of_mem _ hw)]
theorem join_cut (l : L8) : joinB [32] (cutB 32 l) = l := by
  induction l with
  | nil => rfl
  | cons c r ih =>
    by_cases hc : c = 32
    · subst hc
      have e : cutB 32 (32 :: r) = [] :: cutB 32 r := by
        have := cutB_hit (c := 32) (a := []) r (by simp)
        simpa using this
      rw [e, joinB_cons _ _ (cutB_ne 32 r), ih]; rfl
    · obtain ⟨h, t, e⟩ := cutB_cons 32 r
      have e2 : cutB 32 (c :: r) = (c :: h) :: t := by
        rw [cutB, e]; simp [hc]
      rw [e2]
      rw [e] at ih
      cases t with
      | nil => show c :: h = _; rw [show h = r from ih]
      | cons y t =>
        rw [joinB_cons _ _ (by simp)] at ih ⊢
        rw [← ih]; rfl
end Go.Proofs.YtkmnmigpnbehaaaDoor
