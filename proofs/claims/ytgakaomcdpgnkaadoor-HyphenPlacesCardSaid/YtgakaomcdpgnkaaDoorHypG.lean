/- What the rows' list of layer 13 gives: strings.asciiSpace. -/
import Derived.Test.YtgakaomcdpgnkaaDoorUtfT
import Derived.Test.YtgakaomcdpgnkaaDoorHypT
import Derived.Lib.LaidTab
namespace Go.Proofs.YtgakaomcdpgnkaaDoor
open Go.Shelf Go.Lib Go.ChangeShapes Go.WideShapes Go.ChangeAt Go.RowKit

def tabList13 : List (String × DataW Unit) := Rows.hyphenTellsRow.laid
def aspTab : List Int := (List.range 256).map fun c => if c = 9 ∨ c = 10 ∨ c = 11 ∨ c = 12 ∨ c = 13 ∨ c = 32 then 1 else 0
theorem asp_eq : (Rows.laid_strings_asciiSpace : DataW Unit) = tabData .u8 aspTab := by kernel_rfl

theorem asp_of {W : World} (hL : laidMet Tryd.prog tabList13 W) : Asp W := by
  have h1 := Lib.laidMet.reads hL (n := "strings.asciiSpace") (d := Rows.laid_strings_asciiSpace) (by first | exact .head _ | exact .tail _ (.head _) | exact .tail _ (.tail _ (.head _)) | exact .tail _ (.tail _ (.tail _ (.head _))))
  rw [asp_eq] at h1
  obtain ⟨g, t, cs, fuel, p, hg, hty, hvar, hd⟩ := h1
  obtain rfl := Option.some.inj ((show Tryd.prog.globalNamed "strings.asciiSpace" = some 0 by kernel_rfl).symm.trans hg)
  obtain rfl := Option.some.inj ((show Option.map (fun x => x.type) Tryd.prog.globals[0]? = some 98 by kernel_rfl).symm.trans hty)
  have hcs := cells_of_tab (P := Tryd.prog) Tryd.underlying98 Tryd.underlying5 (by kernel_rfl) (by kernel_rfl) hd
  intro c hc
  rw [World.var?_cell hg hvar c, ← Array.getElem?_toList, hcs]
  simp [aspTab, hc]
end Go.Proofs.YtgakaomcdpgnkaaDoor
