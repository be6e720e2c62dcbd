/- What the rows' list of layer 14 gives: utf8's tables, strings.asciiSpace; structs that came in. -/
import Derived.Test.YtjkfefjfmocekaaDoorJ3
import Derived.Test.YtjkfefjfmocekaaDoorHypT
import Derived.Lib.LaidTab
namespace Go.Proofs.YtjkfefjfmocekaaDoor
open Go.Shelf Go.Lib Go.ChangeShapes Go.WideShapes Go.ChangeAt Go.RowKit

def tabList14 : List (String × DataW Unit) := Rows.itemsTextRow.laid
def aspTab : List Int := (List.range 256).map fun c => if c = 9 ∨ c = 10 ∨ c = 11 ∨ c = 12 ∨ c = 13 ∨ c = 32 then 1 else 0
theorem asp_eq : (Rows.laid_strings_asciiSpace : DataW Unit) = tabData .u8 aspTab := by kernel_rfl

theorem asp_of14 {W : World} (hL : laidMet Tryd.prog tabList14 W) : Asp W := by
  have h1 := Lib.laidMet.reads hL (n := "strings.asciiSpace") (d := Rows.laid_strings_asciiSpace) (by first | exact .head _ | exact .tail _ (.head _) | exact .tail _ (.tail _ (.head _)) | exact .tail _ (.tail _ (.tail _ (.head _))))
  rw [asp_eq] at h1
  obtain ⟨g, t, cs, fuel, p, hg, hty, hvar, hd⟩ := h1
  obtain rfl := Option.some.inj ((show Tryd.prog.globalNamed "strings.asciiSpace" = some 3 by kernel_rfl).symm.trans hg)
  obtain rfl := Option.some.inj ((show Option.map (fun x => x.type) Tryd.prog.globals[3]? = some 76 by kernel_rfl).symm.trans hty)
  have hcs := cells_of_tab (P := Tryd.prog) Tryd.underlying76 Tryd.underlying5 (by kernel_rfl) (by kernel_rfl) hd
  intro c hc
  rw [World.var?_cell hg hvar c, ← Array.getElem?_toList, hcs]
  simp [aspTab, hc]
theorem tabs_of14 {W : World} (hL : laidMet Tryd.prog tabList14 W) : Tabs W := by
  have h1 := Lib.laidMet.reads hL (n := "unicode/utf8.first") (d := Rows.laid_unicode_utf8_first) (by first | exact .head _ | exact .tail _ (.head _) | exact .tail _ (.tail _ (.head _)) | exact .tail _ (.tail _ (.tail _ (.head _))))
  have h2 := Lib.laidMet.reads hL (n := "unicode/utf8.acceptRanges") (d := Rows.laid_unicode_utf8_acceptRanges) (by first | exact .head _ | exact .tail _ (.head _) | exact .tail _ (.tail _ (.head _)) | exact .tail _ (.tail _ (.tail _ (.head _))))
  rw [first_eq] at h1
  rw [accept_eq] at h2
  exact utf8Tabs_of_readsT (U8Types.of196 Tryd.lays196) ⟨by kernel_rfl, by kernel_rfl, by kernel_rfl, by kernel_rfl, by kernel_rfl, by kernel_rfl, by kernel_rfl⟩ h1 h2

theorem two_of {cs : Array Value} (h : cs.size = 2) : ∃ a b, cs = #[a, b] := by
  obtain ⟨l⟩ := cs
  match l, h with
  | [a, b], _ => exact ⟨a, b, rfl⟩
theorem five_of {cs : Array Value} (h : cs.size = 5) : ∃ a b c d e, cs = #[a, b, c, d, e] := by
  obtain ⟨l⟩ := cs
  match l, h with
  | [a, b, c, d, e], _ => exact ⟨a, b, c, d, e, rfl⟩
end Go.Proofs.YtjkfefjfmocekaaDoor
