/-
  DERIVED. GIVEN WITH THE SEED: THE CARDS: each row of YtempicociampoaaGreatDoorRows.lean that lists a variable, with what it lists TIED to the program's text (the seventh form; the later family's looks); each row that meets fmt, with fmt's text TOLD by the authors' own Lean function (tested against real Go, not proved from fmt's source: count such statements apart). THE CARD IS WHAT COUNTS. Prove the row's statement (the work); the ties are given (YtempicociampoaaGreatDoorTie.lean); close each card by the builder's one call (the guide's Derived/Test/ToyasCard.lean, 'card_holds'). Laid BY PROGRAM, IN A SANDBOX (cutbox-door.mjs). By AI agents, Wed Nov 11 2026. No macro, syntax, notation, axiom, sorry.
-/
import Derived.Test.YtempicociampoaaGreatDoorRows
import GoSem.ClaimSeven
namespace Go.Proofs.YtempicociampoaaGreatDoor
namespace Rows

/-- THE TIED CARD OF 'codexlaw19.LinesTell'. -/
def linesTellCard : Claim7 := { stood := { row := linesTellRow, standIns := [], harness := (true, "119a5bc64ef6864d440b0cf91d169ef9137867500656819c81805159f9d78ddc"), looks := false }, kinds := [], alts := [], laidByText := true, laidKinds := [.data, .listed, .data, .pinned], laidTests := true, laidLooks := .later }
def LinesTellCardSaid : Prop := Claim7.holds Tryz.pinned (.plain (OpenSpec.ofChange linesTellSpec)) linesTellCard

/-- THE TIED CARD OF 'codexlaw19.LinesText'. -/
def linesTextCard : Claim7 := { stood := { row := linesTextRow, standIns := [], harness := (true, "119a5bc64ef6864d440b0cf91d169ef9137867500656819c81805159f9d78ddc"), looks := false }, kinds := [], alts := [], laidByText := true, laidKinds := [.data, .listed, .data, .pinned], laidTests := true, laidLooks := .later }
def LinesTextCardSaid : Prop := Claim7.holds Tryz.pinned (.plain (OpenSpec.ofChange linesTextSpec)) linesTextCard

/-- THE TIED CARD OF 'codexlaw19.LinesMarks'. -/
def linesMarksCard : Claim7 := { stood := { row := linesMarksRow, standIns := [], harness := (true, "119a5bc64ef6864d440b0cf91d169ef9137867500656819c81805159f9d78ddc"), looks := false }, kinds := [], alts := [], laidByText := true, laidKinds := [.data, .listed, .data, .pinned], laidTests := true, laidLooks := .later }
def LinesMarksCardSaid : Prop := Claim7.holds Tryz.pinned (.plain (OpenSpec.ofChange linesMarksSpec)) linesMarksCard

/-- THE TIED CARD OF 'codexlaw19.LinesEnd'. -/
def linesEndCard : Claim7 := { stood := { row := linesEndRow, standIns := [], harness := (true, "119a5bc64ef6864d440b0cf91d169ef9137867500656819c81805159f9d78ddc"), looks := false }, kinds := [], alts := [], laidByText := true, laidKinds := [.data, .listed, .data, .pinned], laidTests := true, laidLooks := .later }
def LinesEndCardSaid : Prop := Claim7.holds Tryz.pinned (.plain (OpenSpec.ofChange linesEndSpec)) linesEndCard

/-- THE SECOND FORM's CARD OF 'codexlaw19.LinesTell'. -/
def linesTellUptoCard : Claim7 := { stood := { row := linesTellUptoRow, standIns := [], harness := (true, "119a5bc64ef6864d440b0cf91d169ef9137867500656819c81805159f9d78ddc"), looks := false }, kinds := [], alts := [], laidByText := true, laidKinds := [.data, .listed, .data, .pinned], laidTests := true, laidLooks := .later }
def LinesTellUptoCardSaid : Prop := Claim7.holds Tryz.pinned (.plain (OpenSpec.upto linesTellSpec)) linesTellUptoCard

/-- THE SECOND FORM's CARD OF 'codexlaw19.LinesText'. -/
def linesTextUptoCard : Claim7 := { stood := { row := linesTextUptoRow, standIns := [], harness := (true, "119a5bc64ef6864d440b0cf91d169ef9137867500656819c81805159f9d78ddc"), looks := false }, kinds := [], alts := [], laidByText := true, laidKinds := [.data, .listed, .data, .pinned], laidTests := true, laidLooks := .later }
def LinesTextUptoCardSaid : Prop := Claim7.holds Tryz.pinned (.plain (OpenSpec.upto linesTextSpec)) linesTextUptoCard

/-- THE SECOND FORM's CARD OF 'codexlaw19.LinesMarks'. -/
def linesMarksUptoCard : Claim7 := { stood := { row := linesMarksUptoRow, standIns := [], harness := (true, "119a5bc64ef6864d440b0cf91d169ef9137867500656819c81805159f9d78ddc"), looks := false }, kinds := [], alts := [], laidByText := true, laidKinds := [.data, .listed, .data, .pinned], laidTests := true, laidLooks := .later }
def LinesMarksUptoCardSaid : Prop := Claim7.holds Tryz.pinned (.plain (OpenSpec.upto linesMarksSpec)) linesMarksUptoCard

/-- THE SECOND FORM's CARD OF 'codexlaw19.LinesEnd'. -/
def linesEndUptoCard : Claim7 := { stood := { row := linesEndUptoRow, standIns := [], harness := (true, "119a5bc64ef6864d440b0cf91d169ef9137867500656819c81805159f9d78ddc"), looks := false }, kinds := [], alts := [], laidByText := true, laidKinds := [.data, .listed, .data, .pinned], laidTests := true, laidLooks := .later }
def LinesEndUptoCardSaid : Prop := Claim7.holds Tryz.pinned (.plain (OpenSpec.upto linesEndSpec)) linesEndUptoCard
end Rows
end Go.Proofs.YtempicociampoaaGreatDoor
