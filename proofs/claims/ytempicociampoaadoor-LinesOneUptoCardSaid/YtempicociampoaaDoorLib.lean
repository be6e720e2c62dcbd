/- Lemmas of ours over any program: arrays of bytes held against each other; slices whose elements are rows of cells. -/
import Derived.Test.YtempicociampoaaDoorRows
import Derived.WalkKit
import Derived.WalkSpells
import Derived.WalkLawsBesides
import Derived.Deep.MidRow
import Derived.Deep.QuietTactic
import Derived.BigQuiet
namespace Go.Proofs.YtempicociampoaaDoor
open Go.RowKit

theorem ret_int {k : IntKind} {a b : Int} (h : a = b) : Ending.returned (.int k a) = .returned (.int k b) := by rw [h]
theorem ret_bool {a b : Bool} (h : a = b) : Ending.returned (.bool a) = .returned (.bool b) := by rw [h]
theorem hid {p : Prop} (h : p) : Hid p := h

section
variable {P : Program}
end

/-- slices of rows of cells, k cells each -/
def Sl {α : Type} (w : World) (k : Nat) (enc : α → List Value) (v : Value) (l : List α) : Prop :=
  (v = .slice none 0 0 ∧ l = []) ∨ ∃ (a : Addr) (cap : Nat), v = .slice (some a) l.length cap ∧ l.length ≤ cap ∧ cap ≤ maxLen ∧ (l ≠ [] → a.spot = none) ∧ ∀ i x, l[i]? = some x → w.rangeAt a.block (a.off + i * k) (enc x)

theorem Sl.mk {α : Type} {w : World} {k : Nat} {enc : α → List Value} {l : List α} {b o cap : Nat} (h1 : l.length ≤ cap) (h2 : cap ≤ maxLen) (h3 : ∀ i x, l[i]? = some x → w.rangeAt b (o + i * k) (enc x)) :
    Sl w k enc (.slice (some ⟨b, o, none⟩) l.length cap) l := .inr ⟨⟨b, o, none⟩, cap, rfl, h1, h2, fun _ => rfl, h3⟩

theorem Sl.shape {α : Type} {w : World} {k : Nat} {enc : α → List Value} {v : Value} {l : List α} (h : Sl w k enc v l) : ∃ p cap, v = .slice p l.length cap ∧ l.length ≤ maxLen := by
  rcases h with ⟨rfl, rfl⟩ | ⟨a, cap, rfl, h1, h2, _⟩
  · exact ⟨none, 0, rfl, by simp [maxLen]⟩
  · exact ⟨_, _, rfl, by omega⟩

theorem Sl.open {α : Type} {w : World} {k : Nat} {enc : α → List Value} {v : Value} {l : List α} (h : Sl w k enc v l) (hn : l ≠ []) :
    ∃ b o cap, v = .slice (some ⟨b, o, none⟩) l.length cap ∧ l.length ≤ cap ∧ cap ≤ maxLen ∧ ∀ i x, l[i]? = some x → w.rangeAt b (o + i * k) (enc x) := by
  rcases h with ⟨_, h⟩ | ⟨⟨b, o, sp⟩, cap, rfl, h1, h2, h3, h4⟩
  · exact absurd h hn
  · obtain rfl : sp = none := h3 hn
    exact ⟨b, o, cap, rfl, h1, h2, h4⟩

def encI (n : Int) : List Value := [.int .i64 n]

theorem rangeAt_one {w : World} {b o : Nat} {v : Value} (h : w.rangeAt b o [v]) : w.cell? ⟨b, o, none⟩ = some v := h 0 v rfl

/-- after some draws: kept from the walk -/
def Drew (w w' : World) : Prop := ∃ m, w' = w.drewN m
theorem Drew.refl (w : World) : Drew w w := ⟨0, rfl⟩
theorem Drew.trans {a b c : World} (h : Drew a b) (k : Drew b c) : Drew a c := by
  obtain ⟨m, rfl⟩ := h; obtain ⟨n, rfl⟩ := k; exact ⟨m + n, World.drewN_drewN ..⟩
theorem Drew.drewN {a b : World} (h : Drew a b) (n : Nat) : Drew a (b.drewN n) := h.trans ⟨n, rfl⟩
theorem Drew.cell {a b : World} (h : Drew a b) {p : Addr} {v : Value} (hc : a.cell? p = some v) : b.cell? p = some v := by obtain ⟨m, rfl⟩ := h; exact hc
theorem Drew.range {a b : World} (h : Drew a b) {k o : Nat} {cs : List Value} (hc : a.rangeAt k o cs) : b.rangeAt k o cs := by obtain ⟨m, rfl⟩ := h; exact hc
theorem Drew.sl {α : Type} {a b : World} (h : Drew a b) {k : Nat} {enc : α → List Value} {v : Value} {l : List α} (hs : Sl a k enc v l) : Sl b k enc v l := by obtain ⟨m, rfl⟩ := h; exact hs
theorem Drew.out {a b : World} (h : Drew a b) : ∃ m, b = a.drewN m := h
end Go.Proofs.YtempicociampoaaDoor
