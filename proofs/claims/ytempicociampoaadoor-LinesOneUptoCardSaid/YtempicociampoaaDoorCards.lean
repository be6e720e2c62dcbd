/-
  DERIVED. GIVEN WITH THE SEED: THE CARDS: each row of YtempicociampoaaDoorRows.lean that lists a variable, with what it lists TIED to the program's text (the seventh form; the later family's looks); each row that meets fmt, with fmt's text TOLD by the authors' own Lean function (tested against real Go, not proved from fmt's source: count such statements apart). THE CARD IS WHAT COUNTS. Prove the row's statement (the work); the ties are given (YtempicociampoaaDoorTie.lean); close each card by the builder's one call (the guide's Derived/Test/ToyasCard.lean, 'card_holds'). Laid BY PROGRAM, IN A SANDBOX (cutbox-door.mjs). By AI agents, Wed Nov 11 2026. No macro, syntax, notation, axiom, sorry.
-/
import Derived.Test.YtempicociampoaaDoorRows
import GoSem.ClaimSeven
namespace Go.Proofs.YtempicociampoaaDoor
namespace Rows

/-- THE TIED CARD OF 'codexlaw19.LinesOne'. -/
def linesOneCard : Claim7 := { stood := { row := linesOneRow, standIns := [], harness := (true, "153b0e424a9ac3bcb66309bc464d0f486b3f4a4fd58420229c6069b8916f2cdc"), looks := false }, kinds := [], alts := [], laidByText := true, laidKinds := [.data, .listed, .data, .pinned], laidTests := true, laidLooks := .later }
def LinesOneCardSaid : Prop := Claim7.holds Tryd.pinned (.plain (OpenSpec.ofChange linesOneSpec)) linesOneCard

/-- THE SECOND FORM's CARD OF 'codexlaw19.LinesOne'. -/
def linesOneUptoCard : Claim7 := { stood := { row := linesOneUptoRow, standIns := [], harness := (true, "153b0e424a9ac3bcb66309bc464d0f486b3f4a4fd58420229c6069b8916f2cdc"), looks := false }, kinds := [], alts := [], laidByText := true, laidKinds := [.data, .listed, .data, .pinned], laidTests := true, laidLooks := .later }
def LinesOneUptoCardSaid : Prop := Claim7.holds Tryd.pinned (.plain (OpenSpec.upto linesOneSpec)) linesOneUptoCard
end Rows
end Go.Proofs.YtempicociampoaaDoor
