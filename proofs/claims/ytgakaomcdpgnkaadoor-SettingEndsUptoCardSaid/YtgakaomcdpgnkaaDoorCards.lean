/-
  DERIVED. GIVEN WITH THE SEED: THE CARDS: each row of YtgakaomcdpgnkaaDoorRows.lean that lists a variable, with what it lists TIED to the program's text (the seventh form; the later family's looks); each row that meets fmt, with fmt's text TOLD by the authors' own Lean function (tested against real Go, not proved from fmt's source: count such statements apart). THE CARD IS WHAT COUNTS. Prove the row's statement (the work); the ties are given (YtgakaomcdpgnkaaDoorTie.lean); close each card by the builder's one call (the guide's Derived/Test/ToyasCard.lean, 'card_holds'). Laid BY PROGRAM, IN A SANDBOX (cutbox-door.mjs). By AI agents, Wed Nov 11 2026. No macro, syntax, notation, axiom, sorry.
-/
import Derived.Test.YtgakaomcdpgnkaaDoorRows
import GoSem.ClaimSeven
namespace Go.Proofs.YtgakaomcdpgnkaaDoor
namespace Rows

/-- THE TIED CARD OF 'codexlaw18.SettingEnds'. -/
def settingEndsCard : Claim7 := { stood := { row := settingEndsRow, standIns := [], harness := (true, "ef0dee2d6c684782cd6bec3deb6d3e75d2656bd6c1609830fcbb74e93d0ec83b"), looks := false }, kinds := [], alts := [], laidByText := true, laidKinds := [.data, .pinned], laidTests := true, laidLooks := .later }
def SettingEndsCardSaid : Prop := Claim7.holds Tryd.pinned (.plain (OpenSpec.ofChange settingEndsSpec)) settingEndsCard

/-- THE TIED CARD OF 'codexlaw18.SettingSpreads'. -/
def settingSpreadsCard : Claim7 := { stood := { row := settingSpreadsRow, standIns := [], harness := (true, "ef0dee2d6c684782cd6bec3deb6d3e75d2656bd6c1609830fcbb74e93d0ec83b"), looks := false }, kinds := [], alts := [], laidByText := true, laidKinds := [.data, .pinned], laidTests := true, laidLooks := .later }
def SettingSpreadsCardSaid : Prop := Claim7.holds Tryd.pinned (.plain (OpenSpec.ofChange settingSpreadsSpec)) settingSpreadsCard

/-- THE TIED CARD OF 'codexlaw13.HyphenTells'. -/
def hyphenTellsCard : Claim7 := { stood := { row := hyphenTellsRow, standIns := [], harness := (true, "ef0dee2d6c684782cd6bec3deb6d3e75d2656bd6c1609830fcbb74e93d0ec83b"), looks := false }, kinds := [], alts := [], laidByText := true, laidKinds := [.data, .listed, .data, .pinned], laidTests := true, laidLooks := .later }
def HyphenTellsCardSaid : Prop := Claim7.holds Tryd.pinned (.plain (OpenSpec.ofChange hyphenTellsSpec)) hyphenTellsCard

/-- THE TIED CARD OF 'codexlaw13.HyphenPlaces'. -/
def hyphenPlacesCard : Claim7 := { stood := { row := hyphenPlacesRow, standIns := [], harness := (true, "ef0dee2d6c684782cd6bec3deb6d3e75d2656bd6c1609830fcbb74e93d0ec83b"), looks := false }, kinds := [], alts := [], laidByText := true, laidKinds := [.data, .listed, .data, .pinned], laidTests := true, laidLooks := .later }
def HyphenPlacesCardSaid : Prop := Claim7.holds Tryd.pinned (.plain (OpenSpec.ofChange hyphenPlacesSpec)) hyphenPlacesCard

/-- THE TIED CARD OF 'codexlaw13.HyphenPatterns'. -/
def hyphenPatternsCard : Claim7 := { stood := { row := hyphenPatternsRow, standIns := [], harness := (true, "ef0dee2d6c684782cd6bec3deb6d3e75d2656bd6c1609830fcbb74e93d0ec83b"), looks := false }, kinds := [], alts := [], laidByText := true, laidKinds := [.data, .listed, .data, .pinned], laidTests := true, laidLooks := .later }
def HyphenPatternsCardSaid : Prop := Claim7.holds Tryd.pinned (.plain (OpenSpec.ofChange hyphenPatternsSpec)) hyphenPatternsCard

/-- THE SECOND FORM's CARD OF 'codexlaw18.SettingEnds'. -/
def settingEndsUptoCard : Claim7 := { stood := { row := settingEndsUptoRow, standIns := [], harness := (true, "ef0dee2d6c684782cd6bec3deb6d3e75d2656bd6c1609830fcbb74e93d0ec83b"), looks := false }, kinds := [], alts := [], laidByText := true, laidKinds := [.data, .pinned], laidTests := true, laidLooks := .later }
def SettingEndsUptoCardSaid : Prop := Claim7.holds Tryd.pinned (.plain (OpenSpec.upto settingEndsSpec)) settingEndsUptoCard

/-- THE SECOND FORM's CARD OF 'codexlaw18.SettingSpreads'. -/
def settingSpreadsUptoCard : Claim7 := { stood := { row := settingSpreadsUptoRow, standIns := [], harness := (true, "ef0dee2d6c684782cd6bec3deb6d3e75d2656bd6c1609830fcbb74e93d0ec83b"), looks := false }, kinds := [], alts := [], laidByText := true, laidKinds := [.data, .pinned], laidTests := true, laidLooks := .later }
def SettingSpreadsUptoCardSaid : Prop := Claim7.holds Tryd.pinned (.plain (OpenSpec.upto settingSpreadsSpec)) settingSpreadsUptoCard

/-- THE SECOND FORM's CARD OF 'codexlaw13.HyphenTells'. -/
def hyphenTellsUptoCard : Claim7 := { stood := { row := hyphenTellsUptoRow, standIns := [], harness := (true, "ef0dee2d6c684782cd6bec3deb6d3e75d2656bd6c1609830fcbb74e93d0ec83b"), looks := false }, kinds := [], alts := [], laidByText := true, laidKinds := [.data, .listed, .data, .pinned], laidTests := true, laidLooks := .later }
def HyphenTellsUptoCardSaid : Prop := Claim7.holds Tryd.pinned (.plain (OpenSpec.upto hyphenTellsSpec)) hyphenTellsUptoCard

/-- THE SECOND FORM's CARD OF 'codexlaw13.HyphenPlaces'. -/
def hyphenPlacesUptoCard : Claim7 := { stood := { row := hyphenPlacesUptoRow, standIns := [], harness := (true, "ef0dee2d6c684782cd6bec3deb6d3e75d2656bd6c1609830fcbb74e93d0ec83b"), looks := false }, kinds := [], alts := [], laidByText := true, laidKinds := [.data, .listed, .data, .pinned], laidTests := true, laidLooks := .later }
def HyphenPlacesUptoCardSaid : Prop := Claim7.holds Tryd.pinned (.plain (OpenSpec.upto hyphenPlacesSpec)) hyphenPlacesUptoCard

/-- THE SECOND FORM's CARD OF 'codexlaw13.HyphenPatterns'. -/
def hyphenPatternsUptoCard : Claim7 := { stood := { row := hyphenPatternsUptoRow, standIns := [], harness := (true, "ef0dee2d6c684782cd6bec3deb6d3e75d2656bd6c1609830fcbb74e93d0ec83b"), looks := false }, kinds := [], alts := [], laidByText := true, laidKinds := [.data, .listed, .data, .pinned], laidTests := true, laidLooks := .later }
def HyphenPatternsUptoCardSaid : Prop := Claim7.holds Tryd.pinned (.plain (OpenSpec.upto hyphenPatternsSpec)) hyphenPatternsUptoCard
end Rows
end Go.Proofs.YtgakaomcdpgnkaaDoor
