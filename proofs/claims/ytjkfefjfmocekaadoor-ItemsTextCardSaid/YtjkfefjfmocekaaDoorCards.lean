/-
  DERIVED. GIVEN WITH THE SEED: THE CARDS: each row of YtjkfefjfmocekaaDoorRows.lean that lists a variable, with what it lists TIED to the program's text (the seventh form; the later family's looks); each row that meets fmt, with fmt's text TOLD by the authors' own Lean function (tested against real Go, not proved from fmt's source: count such statements apart). THE CARD IS WHAT COUNTS. Prove the row's statement (the work); the ties are given (YtjkfefjfmocekaaDoorTie.lean); close each card by the builder's one call (the guide's Derived/Test/ToyasCard.lean, 'card_holds'). Laid BY PROGRAM, IN A SANDBOX (cutbox-door.mjs). By AI agents, Wed Nov 11 2026. No macro, syntax, notation, axiom, sorry.
-/
import Derived.Test.YtjkfefjfmocekaaDoorRows
import GoSem.ClaimSeven
namespace Go.Proofs.YtjkfefjfmocekaaDoor
namespace Rows

/-- THE TIED CARD OF 'codexlaw14.ItemsText'. -/
def itemsTextCard : Claim7 := { stood := { row := itemsTextRow, standIns := [], harness := (true, "a6102f3d518f416b162e98ee33a3da50aac768367899d3104c042c0751251b70"), looks := false }, kinds := [], alts := [], laidByText := true, laidKinds := [.data, .listed, .data, .pinned], laidTests := true, laidLooks := .later }
def ItemsTextCardSaid : Prop := Claim7.holds Tryd.pinned (.plain (OpenSpec.ofChange itemsTextSpec)) itemsTextCard

/-- THE TIED CARD OF 'codexlaw14.ItemsWords'. -/
def itemsWordsCard : Claim7 := { stood := { row := itemsWordsRow, standIns := [], harness := (true, "a6102f3d518f416b162e98ee33a3da50aac768367899d3104c042c0751251b70"), looks := false }, kinds := [], alts := [], laidByText := true, laidKinds := [.data, .listed, .data, .pinned], laidTests := true, laidLooks := .later }
def ItemsWordsCardSaid : Prop := Claim7.holds Tryd.pinned (.plain (OpenSpec.ofChange itemsWordsSpec)) itemsWordsCard

/-- THE SECOND FORM's CARD OF 'codexlaw14.ItemsText'. -/
def itemsTextUptoCard : Claim7 := { stood := { row := itemsTextUptoRow, standIns := [], harness := (true, "a6102f3d518f416b162e98ee33a3da50aac768367899d3104c042c0751251b70"), looks := false }, kinds := [], alts := [], laidByText := true, laidKinds := [.data, .listed, .data, .pinned], laidTests := true, laidLooks := .later }
def ItemsTextUptoCardSaid : Prop := Claim7.holds Tryd.pinned (.plain (OpenSpec.upto itemsTextSpec)) itemsTextUptoCard

/-- THE SECOND FORM's CARD OF 'codexlaw14.ItemsWords'. -/
def itemsWordsUptoCard : Claim7 := { stood := { row := itemsWordsUptoRow, standIns := [], harness := (true, "a6102f3d518f416b162e98ee33a3da50aac768367899d3104c042c0751251b70"), looks := false }, kinds := [], alts := [], laidByText := true, laidKinds := [.data, .listed, .data, .pinned], laidTests := true, laidLooks := .later }
def ItemsWordsUptoCardSaid : Prop := Claim7.holds Tryd.pinned (.plain (OpenSpec.upto itemsWordsSpec)) itemsWordsUptoCard
end Rows
end Go.Proofs.YtjkfefjfmocekaaDoor
