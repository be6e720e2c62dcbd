/- The walks of utf.Valid, signs, Signs. -/
import Derived.Test.YtgbfekimflnaiaaDoorUtfB
import Derived.Test.YtgbfekimflnaiaaDoorShelf
namespace Go.Proofs.YtgbfekimflnaiaaDoor
open Go.RowKit Go.Shelf Go.Lib
attribute [local go_sem] Oper.semAt_some

/-- the library's two tables hold what they hold -/
def Tabs (w : World) : Prop := Lib.Utf8Tabs 0 1 w

set_option maxHeartbeats 400000 in
theorem Valid_any (s : ByteArray) (w : World) (hs : s.size ≤ 9223372036854775807) (hT : Tabs w) :
    Calls Tryd.prog 34 #[.string s] w fun e w' => e = .returned (.bool (validD s.data.toList)) ∧ Below w.heap.size w w' := by
  have hc := Tryd.utf8_ValidString s w hs hT
  clear hT
  go_enter Tryd.func34, Tryd.ntmps34
  go_wp2_with (fail)
  refine hc.mono ?_
  rintro e w' ⟨rfl, hB⟩
  go_wp2
  go_ret
  exact ⟨rfl, hB⟩

end Go.Proofs.YtgbfekimflnaiaaDoor
