/- The walk of utf's iterator over a text's signs. -/
import Derived.Test.YtgbfekimflnaiaaDoorRange
import Derived.Test.YtgbfekimflnaiaaDoorUtfP
import Derived.Lib.OthersKept
namespace Go.Proofs.YtgbfekimflnaiaaDoor
open Go.RowKit Go.Shelf Go.Lib
attribute [local go_sem] Oper.semAt_some

def sgEnc (x : Int) : Array Value := #[.int .i64 x]
def SgR (b : Nat) (s : ByteArray) (W : World) : Prop := W.cell? ⟨b, 0, none⟩ = some (.string s)
theorem SgR.st {b : Nat} {s : ByteArray} (B : Nat) : St B (SgR b s) := fun _ _ hk h => hk.cell h

theorem Tryd.infoI : (Tryd.prog.info? 3).map (fun i => (i.zero, i.size, i.bytes)) = some (some (.int .i64 0), 1, 8) := by kernel_rfl

end Go.Proofs.YtgbfekimflnaiaaDoor
