/- What the rows' list gives: the library's two tables hold what they hold; arguments that came in. Arguments that came in, of a bound bulk: slices of strings, structs of five fields, arrays of bytes. What the rows' list of layer 19 gives: utf8's tables, strings.asciiSpace; structs that came in (printed by gen_lncard.py). -/
import Derived.Test.YtempicociampoaaDoorJ4
import Derived.Test.YtempicociampoaaDoorJ10
import Derived.Lib.LaidU8T
import Derived.PinnedBridge
import Derived.Test.YtempicociampoaaDoorRows
import Derived.Lib.SmallJoins
import Derived.OpenShut
import Derived.Test.YtempicociampoaaDoorJ6
import Derived.Lib.LaidTab
namespace Go.Proofs.YtempicociampoaaDoor
open Go.Shelf Go.Lib Go.ChangeShapes Go.WideShapes Go.ChangeAt Go.RowKit

theorem accept_eq : (Rows.laid_unicode_utf8_acceptRanges : DataW Unit) = acceptData := by kernel_rfl
theorem first_eq : Rows.laid_unicode_utf8_first = firstData := Pinned.utf8First_eq

end Go.Proofs.YtempicociampoaaDoor
namespace Go.Proofs.YtempicociampoaaDoor
open Go.ChangeShapes Go.WideShapes Go.ChangeAt Go.RowKit Go.Joins Go.Deep

theorem part_le {H : Type} {d : DataW H} {l : List (DataW H)} (h : d ∈ l) : Rows.uptoBulk d ≤ Rows.uptoBulkAll l := by
  induction l with
  | nil => cases h
  | cons x r ih =>
    simp only [Rows.uptoBulkAll]
    rcases List.mem_cons.1 h with e | e
    · subst e; omega
    · have := ih e; omega

section
variable {H : Type} {enc : TypeId × Value → H} {P : Program}
/-- a slice of strings that came in: each is at most as long as the reading's bulk -/
theorem open_textsB {t e : TypeId} {W : World} {fuel : Nat} {v : Value} {x : DataW H × List MemPlace} (ht : P.underlying t = some (.slice e)) (he : P.underlying e = some .string) (hce : P.cellsOf e = 1)
    (h : DataW.trod enc P W 0 (fun _ => true) true fuel t [v] = some x) : ∃ l : List ByteArray, (∀ s ∈ l, s.size ≤ Rows.uptoBulk x.1) ∧ Sl W 1 encS v l := by
  rcases Go.Deep.open_strs ht he hce h with ⟨hcs, -⟩ | ⟨a, len, cap, m, S, hcs, -, hl, hm, hmm, hx0, hcell⟩
  · simp at hcs
    subst hcs
    exact ⟨[], by simp, .inl ⟨rfl, rfl⟩⟩
  · simp at hcs
    subst hcs
    simp only [if_true] at hmm
    subst hmm
    have hs0 : (List.range len).map S ≠ [] → a.spot = none := fun hne => by
      have h0 : 0 < len := by
        cases len with
        | zero => simp at hne
        | succ k => omega
      have := (hcell 0 (by omega)).1
      exact add_zero_spot (v := .string (S 0)) (by simpa [Addr.add] using this)
    refine ⟨(List.range len).map S, fun s hs => ?_, .inr ⟨a, _, by simp, by simpa using hl, hm, hs0, fun i x hi => ?_⟩⟩
    · obtain ⟨i, hi, rfl⟩ := List.mem_map.1 hs
      have hi2 := List.mem_range.1 hi
      rw [hx0]
      simp only [Rows.uptoBulk]
      have h1 := part_le (H := H) (d := .lit (.string (S i).data.toList)) (l := (List.range len).map fun i => .lit (.string (S i).data.toList)) (List.mem_map.2 ⟨i, hi, rfl⟩)
      simp only [Rows.uptoBulk] at h1
      have h2 : (S i).data.toList.length = (S i).size := by rw [Array.length_toList]; rfl
      omega
    · have hlt : i < len := by
        have := (List.getElem?_eq_some_iff.1 hi).1
        simpa using this
      have hx : x = S i := by
        simp [hlt] at hi
        exact hi.symm
      rw [hx]
      intro j u hj
      match j, hj with
      | 0, hj =>
        simp [encS] at hj; subst hj
        have hsp := hs0 (by cases len with | zero => exact absurd hlt (Nat.not_lt_zero _) | succ k => simp)
        have := (hcell i (by omega)).1
        obtain ⟨bb, oo, sp⟩ := a
        dsimp only at hsp
        subst hsp
        rw [show (⟨bb, oo, none⟩ : Addr).add i = ⟨bb, oo + i, none⟩ by by_cases h : i = 0 <;> simp [Addr.add, h]] at this
        simpa using this
      | j + 1, hj => simp [encS] at hj
end
section
variable {H : Type} {enc : TypeId × Value → H} {P : Program} {w : World} {base : Nat} {spare : Nat → Bool} {held : Bool}
theorem drop_one {cs : Array Value} {i : Nat} {c : Value} (h : cs[i]? = some c) : (cs.toList.drop i).take 1 = [c] := by
  obtain ⟨hi, he⟩ := Array.getElem?_eq_some_iff.1 h
  rw [List.drop_eq_getElem_cons (by simpa using hi)]
  simp [he]
/-- a struct whose fields have one cell each, that came in by value: each cell reads by itself -/
theorem struct_cells {r : Reach} {b0 : Nat} {t : TypeId} {fs : Array Field} {v : Value} {d : DataW H} {p : List MemPlace} (hs : P.underlying t = some (.struct fs)) (ho : ∀ (i : Nat) (f : Field), fs[i]? = some f → f.offset = i ∧ P.cellsOf f.type = 1)
    (hv : Value.okWide P w r b0 t v) (h : DataW.Trod enc P w base spare held t v d p) :
    ∃ (cs : Array Value) (ys : List (DataW H × List MemPlace)) (n : Nat), v = .agg cs ∧ cs.size = P.cellsOf t ∧ d = .agg (ys.map (·.1)) ∧
      ∀ (i : Nat) (f : Field) (c : Value), fs[i]? = some f → cs[i]? = some c → ∃ y, ys[i]? = some y ∧ DataW.trod enc P w base spare held n f.type [c] = some y := by
  obtain ⟨cs, rfl, hsz⟩ := okWide_struct hs hv
  obtain ⟨fuel, hf⟩ := h
  obtain ⟨xs, n, -, hx, -, hxl, hg⟩ := DataW.trod_struct hs hf
  refine ⟨cs, xs, n, rfl, hsz, congrArg Prod.fst hx, fun i f c h1 h2 => ?_⟩
  obtain ⟨o1, o2⟩ := ho i f h1
  have h3 := hg i f h1
  have hi : i < xs.length := by rw [hxl]; exact (Array.getElem?_eq_some_iff.1 h1).1
  rw [o1, o2] at h3
  have h4 : ((Value.agg cs).cells.toList.drop i).take 1 = [c] := drop_one h2
  rw [h4, List.getElem?_eq_getElem hi] at h3
  exact ⟨xs[i], List.getElem?_eq_getElem hi, h3⟩
end
end Go.Proofs.YtempicociampoaaDoor
namespace Go.Proofs.YtempicociampoaaDoor
open Go.Shelf Go.Lib Go.ChangeShapes Go.WideShapes Go.ChangeAt Go.RowKit

def tabList19 : List (String × DataW Unit) := Rows.linesOneUptoRow.laid
def aspTab : List Int := (List.range 256).map fun c => if c = 9 ∨ c = 10 ∨ c = 11 ∨ c = 12 ∨ c = 13 ∨ c = 32 then 1 else 0
theorem asp_eq : (Rows.laid_strings_asciiSpace : DataW Unit) = tabData .u8 aspTab := by kernel_rfl

theorem asp_of19 {W : World} (hL : laidMet Tryd.prog tabList19 W) : Asp W := by
  have h1 := Lib.laidMet.reads hL (n := "strings.asciiSpace") (d := Rows.laid_strings_asciiSpace) (by first | exact .head _ | exact .tail _ (.head _) | exact .tail _ (.tail _ (.head _)) | exact .tail _ (.tail _ (.tail _ (.head _))))
  rw [asp_eq] at h1
  obtain ⟨g, t, cs, fuel, p, hg, hty, hvar, hd⟩ := h1
  obtain rfl := Option.some.inj ((show Tryd.prog.globalNamed "strings.asciiSpace" = some 3 by kernel_rfl).symm.trans hg)
  obtain rfl := Option.some.inj ((show Option.map (fun x => x.type) Tryd.prog.globals[3]? = some 119 by kernel_rfl).symm.trans hty)
  have hcs := cells_of_tab (P := Tryd.prog) Tryd.underlying119 Tryd.underlying5 (by kernel_rfl) (by kernel_rfl) hd
  intro c hc
  rw [World.var?_cell hg hvar c, ← Array.getElem?_toList, hcs]
  simp [aspTab, hc]
theorem tabs_of19 {W : World} (hL : laidMet Tryd.prog tabList19 W) : Tabs W := by
  have h1 := Lib.laidMet.reads hL (n := "unicode/utf8.first") (d := Rows.laid_unicode_utf8_first) (by first | exact .head _ | exact .tail _ (.head _) | exact .tail _ (.tail _ (.head _)) | exact .tail _ (.tail _ (.tail _ (.head _))))
  have h2 := Lib.laidMet.reads hL (n := "unicode/utf8.acceptRanges") (d := Rows.laid_unicode_utf8_acceptRanges) (by first | exact .head _ | exact .tail _ (.head _) | exact .tail _ (.tail _ (.head _)) | exact .tail _ (.tail _ (.tail _ (.head _))))
  rw [first_eq] at h1
  rw [accept_eq] at h2
  exact utf8Tabs_of_readsT (U8Types.of196 Tryd.lays196) ⟨by kernel_rfl, by kernel_rfl, by kernel_rfl, by kernel_rfl, by kernel_rfl, by kernel_rfl, by kernel_rfl⟩ h1 h2

theorem five_of {cs : Array Value} (h : cs.size = 5) : ∃ a b c d e, cs = #[a, b, c, d, e] := by
  obtain ⟨l⟩ := cs
  match l, h with
  | [a, b, c, d, e], _ => exact ⟨a, b, c, d, e, rfl⟩
end Go.Proofs.YtempicociampoaaDoor
