/-
  DERIVED. GIVEN WITH THE SEED: THE CARDS: each row of YtncohgkpdfmdgaaDoorRows.lean that lists a variable, with what it lists TIED to the program's text (the seventh form; the later family's looks); each row that meets fmt, with fmt's text TOLD by the authors' own Lean function (tested against real Go, not proved from fmt's source: count such statements apart). THE CARD IS WHAT COUNTS. Prove the row's statement (the work); the ties are given (YtncohgkpdfmdgaaDoorTie.lean); close each card by the builder's one call (the guide's Derived/Test/ToyasCard.lean, 'card_holds'). Laid BY PROGRAM, IN A SANDBOX (cutbox-door.mjs). By AI agents, Wed Nov 11 2026. No macro, syntax, notation, axiom, sorry.
-/
import Derived.Test.YtncohgkpdfmdgaaDoorRows
import GoSem.ClaimSeven
namespace Go.Proofs.YtncohgkpdfmdgaaDoor
namespace Rows

/-- THE TIED CARD OF 'codexlaw10.MetricTells'. -/
def metricTellsCard : Claim7 := { stood := { row := metricTellsRow, standIns := [], harness := (true, "d19d1fd87b61a5b0256dcfb5c801d6bc4be50d1d4ff9825ab4a4a9cb285cccb4"), looks := false }, kinds := [], alts := [], laidByText := true, laidKinds := [.data, .pinned], laidTests := true, laidLooks := .later }
def MetricTellsCardSaid : Prop := Claim7.holds Tryd.pinned (.plain (OpenSpec.ofChange metricTellsSpec)) metricTellsCard

/-- THE TIED CARD OF 'codexlaw10.MetricSums'. -/
def metricSumsCard : Claim7 := { stood := { row := metricSumsRow, standIns := [], harness := (true, "d19d1fd87b61a5b0256dcfb5c801d6bc4be50d1d4ff9825ab4a4a9cb285cccb4"), looks := false }, kinds := [], alts := [], laidByText := true, laidKinds := [.data, .pinned], laidTests := true, laidLooks := .later }
def MetricSumsCardSaid : Prop := Claim7.holds Tryd.pinned (.plain (OpenSpec.ofChange metricSumsSpec)) metricSumsCard

/-- THE TIED CARD OF 'codexlaw10.MetricKinds'. -/
def metricKindsCard : Claim7 := { stood := { row := metricKindsRow, standIns := [], harness := (true, "d19d1fd87b61a5b0256dcfb5c801d6bc4be50d1d4ff9825ab4a4a9cb285cccb4"), looks := false }, kinds := [], alts := [], laidByText := true, laidKinds := [.data, .pinned], laidTests := true, laidLooks := .later }
def MetricKindsCardSaid : Prop := Claim7.holds Tryd.pinned (.plain (OpenSpec.ofChange metricKindsSpec)) metricKindsCard

/-- THE TIED CARD OF 'codexlaw09.UtfTells'. -/
def utfTellsCard : Claim7 := { stood := { row := utfTellsRow, standIns := [], harness := (true, "d19d1fd87b61a5b0256dcfb5c801d6bc4be50d1d4ff9825ab4a4a9cb285cccb4"), looks := false }, kinds := [], alts := [], laidByText := true, laidKinds := [.data, .pinned], laidTests := true, laidLooks := .later }
def UtfTellsCardSaid : Prop := Claim7.holds Tryd.pinned (.plain (OpenSpec.ofChange utfTellsSpec)) utfTellsCard

/-- THE TIED CARD OF 'codexlaw09.UtfBack'. -/
def utfBackCard : Claim7 := { stood := { row := utfBackRow, standIns := [], harness := (true, "d19d1fd87b61a5b0256dcfb5c801d6bc4be50d1d4ff9825ab4a4a9cb285cccb4"), looks := false }, kinds := [], alts := [], laidByText := true, laidKinds := [.data, .pinned], laidTests := true, laidLooks := .later }
def UtfBackCardSaid : Prop := Claim7.holds Tryd.pinned (.plain (OpenSpec.ofChange utfBackSpec)) utfBackCard

/-- THE TIED CARD OF 'codexlaw09.UtfForms'. -/
def utfFormsCard : Claim7 := { stood := { row := utfFormsRow, standIns := [], harness := (true, "d19d1fd87b61a5b0256dcfb5c801d6bc4be50d1d4ff9825ab4a4a9cb285cccb4"), looks := false }, kinds := [], alts := [], laidByText := true, laidKinds := [.data, .pinned], laidTests := true, laidLooks := .later }
def UtfFormsCardSaid : Prop := Claim7.holds Tryd.pinned (.plain (OpenSpec.ofChange utfFormsSpec)) utfFormsCard

/-- THE TIED CARD OF 'codexlaw09.UtfLetters'. -/
def utfLettersCard : Claim7 := { stood := { row := utfLettersRow, standIns := [], harness := (true, "d19d1fd87b61a5b0256dcfb5c801d6bc4be50d1d4ff9825ab4a4a9cb285cccb4"), looks := false }, kinds := [], alts := [], laidByText := true, laidKinds := [.data, .pinned], laidTests := true, laidLooks := .later }
def UtfLettersCardSaid : Prop := Claim7.holds Tryd.pinned (.plain (OpenSpec.ofChange utfLettersSpec)) utfLettersCard

/-- THE SECOND FORM's CARD OF 'codexlaw10.MetricTells'. -/
def metricTellsUptoCard : Claim7 := { stood := { row := metricTellsUptoRow, standIns := [], harness := (true, "d19d1fd87b61a5b0256dcfb5c801d6bc4be50d1d4ff9825ab4a4a9cb285cccb4"), looks := false }, kinds := [], alts := [], laidByText := true, laidKinds := [.data, .pinned], laidTests := true, laidLooks := .later }
def MetricTellsUptoCardSaid : Prop := Claim7.holds Tryd.pinned (.plain (OpenSpec.upto metricTellsSpec)) metricTellsUptoCard

/-- THE SECOND FORM's CARD OF 'codexlaw10.MetricSums'. -/
def metricSumsUptoCard : Claim7 := { stood := { row := metricSumsUptoRow, standIns := [], harness := (true, "d19d1fd87b61a5b0256dcfb5c801d6bc4be50d1d4ff9825ab4a4a9cb285cccb4"), looks := false }, kinds := [], alts := [], laidByText := true, laidKinds := [.data, .pinned], laidTests := true, laidLooks := .later }
def MetricSumsUptoCardSaid : Prop := Claim7.holds Tryd.pinned (.plain (OpenSpec.upto metricSumsSpec)) metricSumsUptoCard

/-- THE SECOND FORM's CARD OF 'codexlaw10.MetricKinds'. -/
def metricKindsUptoCard : Claim7 := { stood := { row := metricKindsUptoRow, standIns := [], harness := (true, "d19d1fd87b61a5b0256dcfb5c801d6bc4be50d1d4ff9825ab4a4a9cb285cccb4"), looks := false }, kinds := [], alts := [], laidByText := true, laidKinds := [.data, .pinned], laidTests := true, laidLooks := .later }
def MetricKindsUptoCardSaid : Prop := Claim7.holds Tryd.pinned (.plain (OpenSpec.upto metricKindsSpec)) metricKindsUptoCard

/-- THE SECOND FORM's CARD OF 'codexlaw09.UtfTells'. -/
def utfTellsUptoCard : Claim7 := { stood := { row := utfTellsUptoRow, standIns := [], harness := (true, "d19d1fd87b61a5b0256dcfb5c801d6bc4be50d1d4ff9825ab4a4a9cb285cccb4"), looks := false }, kinds := [], alts := [], laidByText := true, laidKinds := [.data, .pinned], laidTests := true, laidLooks := .later }
def UtfTellsUptoCardSaid : Prop := Claim7.holds Tryd.pinned (.plain (OpenSpec.upto utfTellsSpec)) utfTellsUptoCard

/-- THE SECOND FORM's CARD OF 'codexlaw09.UtfBack'. -/
def utfBackUptoCard : Claim7 := { stood := { row := utfBackUptoRow, standIns := [], harness := (true, "d19d1fd87b61a5b0256dcfb5c801d6bc4be50d1d4ff9825ab4a4a9cb285cccb4"), looks := false }, kinds := [], alts := [], laidByText := true, laidKinds := [.data, .pinned], laidTests := true, laidLooks := .later }
def UtfBackUptoCardSaid : Prop := Claim7.holds Tryd.pinned (.plain (OpenSpec.upto utfBackSpec)) utfBackUptoCard

/-- THE SECOND FORM's CARD OF 'codexlaw09.UtfForms'. -/
def utfFormsUptoCard : Claim7 := { stood := { row := utfFormsUptoRow, standIns := [], harness := (true, "d19d1fd87b61a5b0256dcfb5c801d6bc4be50d1d4ff9825ab4a4a9cb285cccb4"), looks := false }, kinds := [], alts := [], laidByText := true, laidKinds := [.data, .pinned], laidTests := true, laidLooks := .later }
def UtfFormsUptoCardSaid : Prop := Claim7.holds Tryd.pinned (.plain (OpenSpec.upto utfFormsSpec)) utfFormsUptoCard

/-- THE SECOND FORM's CARD OF 'codexlaw09.UtfLetters'. -/
def utfLettersUptoCard : Claim7 := { stood := { row := utfLettersUptoRow, standIns := [], harness := (true, "d19d1fd87b61a5b0256dcfb5c801d6bc4be50d1d4ff9825ab4a4a9cb285cccb4"), looks := false }, kinds := [], alts := [], laidByText := true, laidKinds := [.data, .pinned], laidTests := true, laidLooks := .later }
def UtfLettersUptoCardSaid : Prop := Claim7.holds Tryd.pinned (.plain (OpenSpec.upto utfLettersSpec)) utfLettersUptoCard
end Rows
end Go.Proofs.YtncohgkpdfmdgaaDoor
