/-
  DERIVED. GIVEN WITH THE SEED: THE CARDS: each row of YtgbfekimflnaiaaDoorRows.lean that lists a variable, with what it lists TIED to the program's text (the seventh form; the later family's looks); each row that meets fmt, with fmt's text TOLD by the authors' own Lean function (tested against real Go, not proved from fmt's source: count such statements apart). THE CARD IS WHAT COUNTS. Prove the row's statement (the work); the ties are given (YtgbfekimflnaiaaDoorTie.lean); close each card by the builder's one call (the guide's Derived/Test/ToyasCard.lean, 'card_holds'). Laid BY PROGRAM, IN A SANDBOX (cutbox-door.mjs). By AI agents, Wed Nov 11 2026. No macro, syntax, notation, axiom, sorry.
-/
import Derived.Test.YtgbfekimflnaiaaDoorRows
import GoSem.ClaimSeven
namespace Go.Proofs.YtgbfekimflnaiaaDoor
namespace Rows

/-- THE TIED CARD OF 'codexlaw11.MarkupTells'. -/
def markupTellsCard : Claim7 := { stood := { row := markupTellsRow, standIns := [], harness := (true, "5df8b4a047f24b856fbae84f3e69a48e3b1d37a2ad0d85c8d2d4a5c4b64d6f99"), looks := false }, kinds := [], alts := [], laidByText := true, laidKinds := [.data, .pinned], laidTests := true, laidLooks := .later }
def MarkupTellsCardSaid : Prop := Claim7.holds Tryd.pinned (.plain (OpenSpec.ofChange markupTellsSpec)) markupTellsCard

/-- THE TIED CARD OF 'codexlaw11.MarkupBack'. -/
def markupBackCard : Claim7 := { stood := { row := markupBackRow, standIns := [], harness := (true, "5df8b4a047f24b856fbae84f3e69a48e3b1d37a2ad0d85c8d2d4a5c4b64d6f99"), looks := false }, kinds := [], alts := [], laidByText := true, laidKinds := [.data, .pinned], laidTests := true, laidLooks := .later }
def MarkupBackCardSaid : Prop := Claim7.holds Tryd.pinned (.plain (OpenSpec.ofChange markupBackSpec)) markupBackCard

/-- THE TIED CARD OF 'codexlaw11.MarkupParts'. -/
def markupPartsCard : Claim7 := { stood := { row := markupPartsRow, standIns := [], harness := (true, "5df8b4a047f24b856fbae84f3e69a48e3b1d37a2ad0d85c8d2d4a5c4b64d6f99"), looks := false }, kinds := [], alts := [], laidByText := true, laidKinds := [.data, .pinned], laidTests := true, laidLooks := .later }
def MarkupPartsCardSaid : Prop := Claim7.holds Tryd.pinned (.plain (OpenSpec.ofChange markupPartsSpec)) markupPartsCard

/-- THE TIED CARD OF 'codexlaw11.MarkupWords'. -/
def markupWordsCard : Claim7 := { stood := { row := markupWordsRow, standIns := [], harness := (true, "5df8b4a047f24b856fbae84f3e69a48e3b1d37a2ad0d85c8d2d4a5c4b64d6f99"), looks := false }, kinds := [], alts := [], laidByText := true, laidKinds := [.data, .pinned], laidTests := true, laidLooks := .later }
def MarkupWordsCardSaid : Prop := Claim7.holds Tryd.pinned (.plain (OpenSpec.ofChange markupWordsSpec)) markupWordsCard

/-- THE TIED CARD OF 'codexlaw11.MarkupMarks'. -/
def markupMarksCard : Claim7 := { stood := { row := markupMarksRow, standIns := [], harness := (true, "5df8b4a047f24b856fbae84f3e69a48e3b1d37a2ad0d85c8d2d4a5c4b64d6f99"), looks := false }, kinds := [], alts := [], laidByText := true, laidKinds := [.data, .pinned], laidTests := true, laidLooks := .later }
def MarkupMarksCardSaid : Prop := Claim7.holds Tryd.pinned (.plain (OpenSpec.ofChange markupMarksSpec)) markupMarksCard

/-- THE SECOND FORM's CARD OF 'codexlaw11.MarkupTells'. -/
def markupTellsUptoCard : Claim7 := { stood := { row := markupTellsUptoRow, standIns := [], harness := (true, "5df8b4a047f24b856fbae84f3e69a48e3b1d37a2ad0d85c8d2d4a5c4b64d6f99"), looks := false }, kinds := [], alts := [], laidByText := true, laidKinds := [.data, .pinned], laidTests := true, laidLooks := .later }
def MarkupTellsUptoCardSaid : Prop := Claim7.holds Tryd.pinned (.plain (OpenSpec.upto markupTellsSpec)) markupTellsUptoCard

/-- THE SECOND FORM's CARD OF 'codexlaw11.MarkupBack'. -/
def markupBackUptoCard : Claim7 := { stood := { row := markupBackUptoRow, standIns := [], harness := (true, "5df8b4a047f24b856fbae84f3e69a48e3b1d37a2ad0d85c8d2d4a5c4b64d6f99"), looks := false }, kinds := [], alts := [], laidByText := true, laidKinds := [.data, .pinned], laidTests := true, laidLooks := .later }
def MarkupBackUptoCardSaid : Prop := Claim7.holds Tryd.pinned (.plain (OpenSpec.upto markupBackSpec)) markupBackUptoCard

/-- THE SECOND FORM's CARD OF 'codexlaw11.MarkupParts'. -/
def markupPartsUptoCard : Claim7 := { stood := { row := markupPartsUptoRow, standIns := [], harness := (true, "5df8b4a047f24b856fbae84f3e69a48e3b1d37a2ad0d85c8d2d4a5c4b64d6f99"), looks := false }, kinds := [], alts := [], laidByText := true, laidKinds := [.data, .pinned], laidTests := true, laidLooks := .later }
def MarkupPartsUptoCardSaid : Prop := Claim7.holds Tryd.pinned (.plain (OpenSpec.upto markupPartsSpec)) markupPartsUptoCard

/-- THE SECOND FORM's CARD OF 'codexlaw11.MarkupWords'. -/
def markupWordsUptoCard : Claim7 := { stood := { row := markupWordsUptoRow, standIns := [], harness := (true, "5df8b4a047f24b856fbae84f3e69a48e3b1d37a2ad0d85c8d2d4a5c4b64d6f99"), looks := false }, kinds := [], alts := [], laidByText := true, laidKinds := [.data, .pinned], laidTests := true, laidLooks := .later }
def MarkupWordsUptoCardSaid : Prop := Claim7.holds Tryd.pinned (.plain (OpenSpec.upto markupWordsSpec)) markupWordsUptoCard

/-- THE SECOND FORM's CARD OF 'codexlaw11.MarkupMarks'. -/
def markupMarksUptoCard : Claim7 := { stood := { row := markupMarksUptoRow, standIns := [], harness := (true, "5df8b4a047f24b856fbae84f3e69a48e3b1d37a2ad0d85c8d2d4a5c4b64d6f99"), looks := false }, kinds := [], alts := [], laidByText := true, laidKinds := [.data, .pinned], laidTests := true, laidLooks := .later }
def MarkupMarksUptoCardSaid : Prop := Claim7.holds Tryd.pinned (.plain (OpenSpec.upto markupMarksSpec)) markupMarksUptoCard
end Rows
end Go.Proofs.YtgbfekimflnaiaaDoor
