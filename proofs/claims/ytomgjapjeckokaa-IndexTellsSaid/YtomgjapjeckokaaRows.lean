/-
  No cell of these rows narrows 'for every input' (looked for: loops, veiled, ifaces, maps, wideKeys, modest, calm, conditions, laid).
  DERIVED. THE GIVEN ROWS OF THIS SEAT. 6 by the template 'for every input the law returns true; each argument reads behind the call as it read before'; 0 by the template 'total and deterministic' (their statements: YtomgjapjeckokaaTotals.lean).
  GIVEN WITH THE SEED: the statements are not yours to turn. If you find one false, say at which input.
  Laid BY PROGRAM, IN A SANDBOX (cutbox-rows.mjs): the forced cells as the released guide's own fill.sh prints them over the translation 45ff71db8d219acb… (all of the seat's roots in one cut). By AI agents, Wed Nov 11 2026. No macro, syntax, notation, axiom, sorry.
-/
import Derived.Test.YtomgjapjeckokaaChecked
import GoSem.Claim
import GoSem.ClaimJoined
import GoSem.ClaimMapViews
import Derived.JoinedTies
import Derived.KernelRfl
namespace Go.Proofs.Ytomgjapjeckokaa
/- THE CELL 'sum', in the pinned program and in every row, IS THE sha256 OF THE DUMP (.gsa) THAT YtomgjapjeckokaaProg.lean LOADS. Nothing in Lean hashes anything: it is a label: what it is worth is what the hold of that sum in a sandbox is worth. -/
noncomputable def Try.pinned : Pinned := { name := "ytomgjapjeckokaa", sum := "45ff71db8d219acbb3664ffb30f68f2b4452fa49b24d697167b7e49dc2919a9b", checked := Try.checked }
namespace Rows
def none {H : Type} : Left H := { results := [], args := [] }

/-- 'codexlaw06.IndexTells': WHATEVER THE INPUT: true; the input reads as it did. -/
def indexTellsSpec : ChangeSpec := { name := "indexTells", fn := fun _ => fun
  | [d1, d2, d3] => { results := [.lit (.bool true)], args := [d1, d2, d3] }
  | _ => none }
def indexTellsRow : OpenClaim := { program := "ytomgjapjeckokaa", sum := "45ff71db8d219acbb3664ffb30f68f2b4452fa49b24d697167b7e49dc2919a9b", func := "codex/codexlaw06.IndexTells", spec := "indexTells", inPlace := ["internal/bytealg.Compare", "slices.overlaps[codex/api.Entry]"], unfollowed := true, recurses := true, apart := false }
def IndexTellsSaid : Prop := indexTellsRow.holds Try.pinned (OpenSpec.ofChange indexTellsSpec)

/-- ITS FALSE NEIGHBOUR: 'it returns false'. Refute it at one input. -/
def indexTellsWrong : ChangeSpec := { name := "indexTells", fn := fun _ => fun
  | [d1, d2, d3] => { results := [.lit (.bool false)], args := [d1, d2, d3] }
  | _ => none }
def IndexTellsWrongFalsely : Prop := indexTellsRow.holds Try.pinned (OpenSpec.ofChange indexTellsWrong)

/-- 'codexlaw06.IndexBack': WHATEVER THE INPUT: true; the input reads as it did. -/
def indexBackSpec : ChangeSpec := { name := "indexBack", fn := fun _ => fun
  | [d1, d2] => { results := [.lit (.bool true)], args := [d1, d2] }
  | _ => none }
def indexBackRow : OpenClaim := { program := "ytomgjapjeckokaa", sum := "45ff71db8d219acbb3664ffb30f68f2b4452fa49b24d697167b7e49dc2919a9b", func := "codex/codexlaw06.IndexBack", spec := "indexBack", inPlace := ["internal/bytealg.Compare", "slices.overlaps[codex/api.Entry]"], unfollowed := true, recurses := true, apart := false }
def IndexBackSaid : Prop := indexBackRow.holds Try.pinned (OpenSpec.ofChange indexBackSpec)

/-- ITS FALSE NEIGHBOUR: 'it returns false'. Refute it at one input. -/
def indexBackWrong : ChangeSpec := { name := "indexBack", fn := fun _ => fun
  | [d1, d2] => { results := [.lit (.bool false)], args := [d1, d2] }
  | _ => none }
def IndexBackWrongFalsely : Prop := indexBackRow.holds Try.pinned (OpenSpec.ofChange indexBackWrong)

/-- 'codexlaw06.IndexKeeps': WHATEVER THE INPUT: true; the input reads as it did. -/
def indexKeepsSpec : ChangeSpec := { name := "indexKeeps", fn := fun _ => fun
  | [d1, d2] => { results := [.lit (.bool true)], args := [d1, d2] }
  | _ => none }
def indexKeepsRow : OpenClaim := { program := "ytomgjapjeckokaa", sum := "45ff71db8d219acbb3664ffb30f68f2b4452fa49b24d697167b7e49dc2919a9b", func := "codex/codexlaw06.IndexKeeps", spec := "indexKeeps", inPlace := ["internal/bytealg.Compare", "slices.overlaps[codex/api.Entry]"], unfollowed := true, recurses := true, apart := false }
def IndexKeepsSaid : Prop := indexKeepsRow.holds Try.pinned (OpenSpec.ofChange indexKeepsSpec)

/-- ITS FALSE NEIGHBOUR: 'it returns false'. Refute it at one input. -/
def indexKeepsWrong : ChangeSpec := { name := "indexKeeps", fn := fun _ => fun
  | [d1, d2] => { results := [.lit (.bool false)], args := [d1, d2] }
  | _ => none }
def IndexKeepsWrongFalsely : Prop := indexKeepsRow.holds Try.pinned (OpenSpec.ofChange indexKeepsWrong)

/-- 'codexlaw06.IndexOrder': WHATEVER THE INPUT: true; the input reads as it did. -/
def indexOrderSpec : ChangeSpec := { name := "indexOrder", fn := fun _ => fun
  | [d1, d2] => { results := [.lit (.bool true)], args := [d1, d2] }
  | _ => none }
def indexOrderRow : OpenClaim := { program := "ytomgjapjeckokaa", sum := "45ff71db8d219acbb3664ffb30f68f2b4452fa49b24d697167b7e49dc2919a9b", func := "codex/codexlaw06.IndexOrder", spec := "indexOrder", inPlace := ["internal/bytealg.Compare", "slices.overlaps[codex/api.Entry]"], unfollowed := true, recurses := true, apart := false }
def IndexOrderSaid : Prop := indexOrderRow.holds Try.pinned (OpenSpec.ofChange indexOrderSpec)

/-- ITS FALSE NEIGHBOUR: 'it returns false'. Refute it at one input. -/
def indexOrderWrong : ChangeSpec := { name := "indexOrder", fn := fun _ => fun
  | [d1, d2] => { results := [.lit (.bool false)], args := [d1, d2] }
  | _ => none }
def IndexOrderWrongFalsely : Prop := indexOrderRow.holds Try.pinned (OpenSpec.ofChange indexOrderWrong)

/-- 'codexlaw06.IndexSizes': WHATEVER THE INPUT: true; the input reads as it did. -/
def indexSizesSpec : ChangeSpec := { name := "indexSizes", fn := fun _ => fun
  | [d] => { results := [.lit (.bool true)], args := [d] }
  | _ => none }
def indexSizesRow : OpenClaim := { program := "ytomgjapjeckokaa", sum := "45ff71db8d219acbb3664ffb30f68f2b4452fa49b24d697167b7e49dc2919a9b", func := "codex/codexlaw06.IndexSizes", spec := "indexSizes", inPlace := ["internal/bytealg.Compare", "slices.overlaps[codex/api.Entry]"], unfollowed := true, recurses := true, apart := false }
def IndexSizesSaid : Prop := indexSizesRow.holds Try.pinned (OpenSpec.ofChange indexSizesSpec)

/-- ITS FALSE NEIGHBOUR: 'it returns false'. Refute it at one input. -/
def indexSizesWrong : ChangeSpec := { name := "indexSizes", fn := fun _ => fun
  | [d] => { results := [.lit (.bool false)], args := [d] }
  | _ => none }
def IndexSizesWrongFalsely : Prop := indexSizesRow.holds Try.pinned (OpenSpec.ofChange indexSizesWrong)

/-- 'codexlaw06.IndexApart': WHATEVER THE INPUT: true; the input reads as it did. -/
def indexApartSpec : ChangeSpec := { name := "indexApart", fn := fun _ => fun
  | [d1, d2] => { results := [.lit (.bool true)], args := [d1, d2] }
  | _ => none }
def indexApartRow : OpenClaim := { program := "ytomgjapjeckokaa", sum := "45ff71db8d219acbb3664ffb30f68f2b4452fa49b24d697167b7e49dc2919a9b", func := "codex/codexlaw06.IndexApart", spec := "indexApart", inPlace := ["internal/bytealg.Compare", "slices.overlaps[codex/api.Entry]"], unfollowed := true, recurses := true, apart := false }
def IndexApartSaid : Prop := indexApartRow.holds Try.pinned (OpenSpec.ofChange indexApartSpec)

/-- ITS FALSE NEIGHBOUR: 'it returns false'. Refute it at one input. -/
def indexApartWrong : ChangeSpec := { name := "indexApart", fn := fun _ => fun
  | [d1, d2] => { results := [.lit (.bool false)], args := [d1, d2] }
  | _ => none }
def IndexApartWrongFalsely : Prop := indexApartRow.holds Try.pinned (OpenSpec.ofChange indexApartWrong)

/- THE SECOND FORM. 'bulk': how many values and letters a reading holds, each counted each time it is reached (what is shared counts as often as it is met; a slice's spare places count too). A statement '..UptoSaid' is the law's where the arguments, and the package variables that the reading takes, are together of bulk at most 1048576: NARROWER than '..Said'. Prove '..Said' where nothing that the law and all that it calls make is longer than what came in: it says more and counts as full. Else prove '..UptoSaid'. A law counts once. -/
mutual
def uptoBulk {H : Type} : DataW H → Nat
  | .lit (.string bytes) => bytes.length + 1
  | .lit _ => 1
  | .nil => 1
  | .ptr d => uptoBulk d + 1
  | .slice elems spare => uptoBulkAll elems + uptoBulkAll spare + 1
  | .agg parts => uptoBulkAll parts + 1
  | .iface _ d => uptoBulk d + 1
  | .map entries => uptoBulkEntries entries + 1
  | .held _ => 1
def uptoBulkAll {H : Type} : List (DataW H) → Nat
  | [] => 0
  | d :: r => uptoBulk d + uptoBulkAll r
def uptoBulkEntries {H : Type} : List (Lit × DataW H) → Nat
  | [] => 0
  | x :: r => uptoBulkEntry x + uptoBulkEntries r
def uptoBulkEntry {H : Type} : Lit × DataW H → Nat
  | (.string bytes, d) => bytes.length + uptoBulk d + 1
  | (_, d) => uptoBulk d + 1
 end
def uptoSmall : (H : Type) → List (DataW H) → Bool := fun _ ds => decide (uptoBulkAll ds ≤ 1048576)
def OpenSpec.upto (s : _root_.Go.ChangeSpec) : _root_.Go.OpenSpec := { _root_.Go.OpenSpec.ofChange s with cond := some uptoSmall }

/-- 'codexlaw06.IndexTells', WHERE WHAT IT READS IS OF BULK AT MOST 1048576: true; the input reads as it did. -/
def indexTellsUptoRow : OpenClaim := { program := "ytomgjapjeckokaa", sum := "45ff71db8d219acbb3664ffb30f68f2b4452fa49b24d697167b7e49dc2919a9b", func := "codex/codexlaw06.IndexTells", spec := "indexTells", inPlace := ["internal/bytealg.Compare", "slices.overlaps[codex/api.Entry]"], unfollowed := true, recurses := true, apart := false, narrowed := true }
def IndexTellsUptoSaid : Prop := indexTellsUptoRow.holds Try.pinned (OpenSpec.upto indexTellsSpec)

/-- 'codexlaw06.IndexBack', WHERE WHAT IT READS IS OF BULK AT MOST 1048576: true; the input reads as it did. -/
def indexBackUptoRow : OpenClaim := { program := "ytomgjapjeckokaa", sum := "45ff71db8d219acbb3664ffb30f68f2b4452fa49b24d697167b7e49dc2919a9b", func := "codex/codexlaw06.IndexBack", spec := "indexBack", inPlace := ["internal/bytealg.Compare", "slices.overlaps[codex/api.Entry]"], unfollowed := true, recurses := true, apart := false, narrowed := true }
def IndexBackUptoSaid : Prop := indexBackUptoRow.holds Try.pinned (OpenSpec.upto indexBackSpec)

/-- 'codexlaw06.IndexKeeps', WHERE WHAT IT READS IS OF BULK AT MOST 1048576: true; the input reads as it did. -/
def indexKeepsUptoRow : OpenClaim := { program := "ytomgjapjeckokaa", sum := "45ff71db8d219acbb3664ffb30f68f2b4452fa49b24d697167b7e49dc2919a9b", func := "codex/codexlaw06.IndexKeeps", spec := "indexKeeps", inPlace := ["internal/bytealg.Compare", "slices.overlaps[codex/api.Entry]"], unfollowed := true, recurses := true, apart := false, narrowed := true }
def IndexKeepsUptoSaid : Prop := indexKeepsUptoRow.holds Try.pinned (OpenSpec.upto indexKeepsSpec)

/-- 'codexlaw06.IndexOrder', WHERE WHAT IT READS IS OF BULK AT MOST 1048576: true; the input reads as it did. -/
def indexOrderUptoRow : OpenClaim := { program := "ytomgjapjeckokaa", sum := "45ff71db8d219acbb3664ffb30f68f2b4452fa49b24d697167b7e49dc2919a9b", func := "codex/codexlaw06.IndexOrder", spec := "indexOrder", inPlace := ["internal/bytealg.Compare", "slices.overlaps[codex/api.Entry]"], unfollowed := true, recurses := true, apart := false, narrowed := true }
def IndexOrderUptoSaid : Prop := indexOrderUptoRow.holds Try.pinned (OpenSpec.upto indexOrderSpec)

/-- 'codexlaw06.IndexSizes', WHERE WHAT IT READS IS OF BULK AT MOST 1048576: true; the input reads as it did. -/
def indexSizesUptoRow : OpenClaim := { program := "ytomgjapjeckokaa", sum := "45ff71db8d219acbb3664ffb30f68f2b4452fa49b24d697167b7e49dc2919a9b", func := "codex/codexlaw06.IndexSizes", spec := "indexSizes", inPlace := ["internal/bytealg.Compare", "slices.overlaps[codex/api.Entry]"], unfollowed := true, recurses := true, apart := false, narrowed := true }
def IndexSizesUptoSaid : Prop := indexSizesUptoRow.holds Try.pinned (OpenSpec.upto indexSizesSpec)

/-- 'codexlaw06.IndexApart', WHERE WHAT IT READS IS OF BULK AT MOST 1048576: true; the input reads as it did. -/
def indexApartUptoRow : OpenClaim := { program := "ytomgjapjeckokaa", sum := "45ff71db8d219acbb3664ffb30f68f2b4452fa49b24d697167b7e49dc2919a9b", func := "codex/codexlaw06.IndexApart", spec := "indexApart", inPlace := ["internal/bytealg.Compare", "slices.overlaps[codex/api.Entry]"], unfollowed := true, recurses := true, apart := false, narrowed := true }
def IndexApartUptoSaid : Prop := indexApartUptoRow.holds Try.pinned (OpenSpec.upto indexApartSpec)

end Rows
end Go.Proofs.Ytomgjapjeckokaa
