/-
  DERIVED. GIVEN WITH THE SEED: THE CARDS: each row of YtchoelgkcnnnkaaGreatDoorRows.lean that lists a variable, with what it lists TIED to the program's text (the seventh form; the later family's looks); each row that meets fmt, with fmt's text TOLD by the authors' own Lean function (tested against real Go, not proved from fmt's source: count such statements apart). THE CARD IS WHAT COUNTS. Prove the row's statement (the work); the ties are given (YtchoelgkcnnnkaaGreatDoorTie.lean); close each card by the builder's one call (the guide's Derived/Test/ToyasCard.lean, 'card_holds'). Laid BY PROGRAM, IN A SANDBOX (cutbox-door.mjs). By AI agents, Wed Nov 11 2026. No macro, syntax, notation, axiom, sorry.
-/
import Derived.Test.YtchoelgkcnnnkaaGreatDoorRows
import GoSem.ClaimSeven
namespace Go.Proofs.YtchoelgkcnnnkaaGreatDoor
namespace Rows

/-- THE TIED CARD OF 'slatewalllaw15.FormulaMatchesReference'. -/
def formulaMatchesReferenceCard : Claim7 := { stood := { row := formulaMatchesReferenceRow, standIns := [], harness := (true, "b5e1b5e4441f04f0939489a2b2db9bf0b6d8106fa2c177fdfd742bbbc07c7487"), looks := true }, kinds := [], alts := [], laidByText := true, laidKinds := [.data, .data, .data, .data, .sentinel, .sentinel, .pinned], laidTests := true, laidLooks := .later }
def FormulaMatchesReferenceCardSaid : Prop := Claim7.holds Tryz.pinned (.plain (OpenSpec.ofChange formulaMatchesReferenceSpec)) formulaMatchesReferenceCard

/-- THE TIED CARD OF 'slatewalllaw15.FormulaValuesMatchReference'. -/
def formulaValuesMatchReferenceCard : Claim7 := { stood := { row := formulaValuesMatchReferenceRow, standIns := [], harness := (true, "b5e1b5e4441f04f0939489a2b2db9bf0b6d8106fa2c177fdfd742bbbc07c7487"), looks := true }, kinds := [], alts := [], laidByText := true, laidKinds := [.data, .data, .data, .data, .sentinel, .sentinel, .pinned], laidTests := true, laidLooks := .later }
def FormulaValuesMatchReferenceCardSaid : Prop := Claim7.holds Tryz.pinned (.plain (OpenSpec.ofChange formulaValuesMatchReferenceSpec)) formulaValuesMatchReferenceCard

/-- THE TIED CARD OF 'slatewalllaw15.FormulaThereAndBack'. -/
def formulaThereAndBackCard : Claim7 := { stood := { row := formulaThereAndBackRow, standIns := [], harness := (true, "b5e1b5e4441f04f0939489a2b2db9bf0b6d8106fa2c177fdfd742bbbc07c7487"), looks := true }, kinds := [], alts := [], laidByText := true, laidKinds := [.data, .data, .data, .data, .sentinel, .sentinel, .pinned], laidTests := true, laidLooks := .later }
def FormulaThereAndBackCardSaid : Prop := Claim7.holds Tryz.pinned (.plain (OpenSpec.ofChange formulaThereAndBackSpec)) formulaThereAndBackCard

/-- THE TIED CARD OF 'slatewalllaw15.FormulaFirstWrong'. -/
def formulaFirstWrongCard : Claim7 := { stood := { row := formulaFirstWrongRow, standIns := [], harness := (true, "b5e1b5e4441f04f0939489a2b2db9bf0b6d8106fa2c177fdfd742bbbc07c7487"), looks := true }, kinds := [], alts := [], laidByText := true, laidKinds := [.data, .data, .data, .data, .sentinel, .sentinel, .pinned], laidTests := true, laidLooks := .later }
def FormulaFirstWrongCardSaid : Prop := Claim7.holds Tryz.pinned (.plain (OpenSpec.ofChange formulaFirstWrongSpec)) formulaFirstWrongCard

/-- THE TIED CARD OF 'slatewalllaw15.FormulaTypes'. -/
def formulaTypesCard : Claim7 := { stood := { row := formulaTypesRow, standIns := [], harness := (true, "b5e1b5e4441f04f0939489a2b2db9bf0b6d8106fa2c177fdfd742bbbc07c7487"), looks := true }, kinds := [], alts := [], laidByText := true, laidKinds := [.data, .data, .data, .data, .sentinel, .sentinel, .pinned], laidTests := true, laidLooks := .later }
def FormulaTypesCardSaid : Prop := Claim7.holds Tryz.pinned (.plain (OpenSpec.ofChange formulaTypesSpec)) formulaTypesCard

/-- THE TIED CARD OF 'slatewalllaw15.FormulaPut'. -/
def formulaPutCard : Claim7 := { stood := { row := formulaPutRow, standIns := [], harness := (true, "b5e1b5e4441f04f0939489a2b2db9bf0b6d8106fa2c177fdfd742bbbc07c7487"), looks := true }, kinds := [], alts := [], laidByText := true, laidKinds := [.data, .data, .data, .data, .sentinel, .sentinel, .pinned], laidTests := true, laidLooks := .later }
def FormulaPutCardSaid : Prop := Claim7.holds Tryz.pinned (.plain (OpenSpec.ofChange formulaPutSpec)) formulaPutCard

/-- THE TIED CARD OF 'slatewalllaw15.FormulaLaws'. -/
def formulaLawsCard : Claim7 := { stood := { row := formulaLawsRow, standIns := [], harness := (true, "b5e1b5e4441f04f0939489a2b2db9bf0b6d8106fa2c177fdfd742bbbc07c7487"), looks := true }, kinds := [], alts := [], laidByText := true, laidKinds := [.data, .data, .data, .data, .sentinel, .sentinel, .pinned], laidTests := true, laidLooks := .later }
def FormulaLawsCardSaid : Prop := Claim7.holds Tryz.pinned (.plain (OpenSpec.ofChange formulaLawsSpec)) formulaLawsCard

/-- THE SECOND FORM's CARD OF 'slatewalllaw15.FormulaMatchesReference'. -/
def formulaMatchesReferenceUptoCard : Claim7 := { stood := { row := formulaMatchesReferenceUptoRow, standIns := [], harness := (true, "b5e1b5e4441f04f0939489a2b2db9bf0b6d8106fa2c177fdfd742bbbc07c7487"), looks := true }, kinds := [], alts := [], laidByText := true, laidKinds := [.data, .data, .data, .data, .sentinel, .sentinel, .pinned], laidTests := true, laidLooks := .later }
def FormulaMatchesReferenceUptoCardSaid : Prop := Claim7.holds Tryz.pinned (.plain (OpenSpec.upto formulaMatchesReferenceSpec)) formulaMatchesReferenceUptoCard

/-- THE SECOND FORM's CARD OF 'slatewalllaw15.FormulaValuesMatchReference'. -/
def formulaValuesMatchReferenceUptoCard : Claim7 := { stood := { row := formulaValuesMatchReferenceUptoRow, standIns := [], harness := (true, "b5e1b5e4441f04f0939489a2b2db9bf0b6d8106fa2c177fdfd742bbbc07c7487"), looks := true }, kinds := [], alts := [], laidByText := true, laidKinds := [.data, .data, .data, .data, .sentinel, .sentinel, .pinned], laidTests := true, laidLooks := .later }
def FormulaValuesMatchReferenceUptoCardSaid : Prop := Claim7.holds Tryz.pinned (.plain (OpenSpec.upto formulaValuesMatchReferenceSpec)) formulaValuesMatchReferenceUptoCard

/-- THE SECOND FORM's CARD OF 'slatewalllaw15.FormulaThereAndBack'. -/
def formulaThereAndBackUptoCard : Claim7 := { stood := { row := formulaThereAndBackUptoRow, standIns := [], harness := (true, "b5e1b5e4441f04f0939489a2b2db9bf0b6d8106fa2c177fdfd742bbbc07c7487"), looks := true }, kinds := [], alts := [], laidByText := true, laidKinds := [.data, .data, .data, .data, .sentinel, .sentinel, .pinned], laidTests := true, laidLooks := .later }
def FormulaThereAndBackUptoCardSaid : Prop := Claim7.holds Tryz.pinned (.plain (OpenSpec.upto formulaThereAndBackSpec)) formulaThereAndBackUptoCard

/-- THE SECOND FORM's CARD OF 'slatewalllaw15.FormulaFirstWrong'. -/
def formulaFirstWrongUptoCard : Claim7 := { stood := { row := formulaFirstWrongUptoRow, standIns := [], harness := (true, "b5e1b5e4441f04f0939489a2b2db9bf0b6d8106fa2c177fdfd742bbbc07c7487"), looks := true }, kinds := [], alts := [], laidByText := true, laidKinds := [.data, .data, .data, .data, .sentinel, .sentinel, .pinned], laidTests := true, laidLooks := .later }
def FormulaFirstWrongUptoCardSaid : Prop := Claim7.holds Tryz.pinned (.plain (OpenSpec.upto formulaFirstWrongSpec)) formulaFirstWrongUptoCard

/-- THE SECOND FORM's CARD OF 'slatewalllaw15.FormulaTypes'. -/
def formulaTypesUptoCard : Claim7 := { stood := { row := formulaTypesUptoRow, standIns := [], harness := (true, "b5e1b5e4441f04f0939489a2b2db9bf0b6d8106fa2c177fdfd742bbbc07c7487"), looks := true }, kinds := [], alts := [], laidByText := true, laidKinds := [.data, .data, .data, .data, .sentinel, .sentinel, .pinned], laidTests := true, laidLooks := .later }
def FormulaTypesUptoCardSaid : Prop := Claim7.holds Tryz.pinned (.plain (OpenSpec.upto formulaTypesSpec)) formulaTypesUptoCard

/-- THE SECOND FORM's CARD OF 'slatewalllaw15.FormulaPut'. -/
def formulaPutUptoCard : Claim7 := { stood := { row := formulaPutUptoRow, standIns := [], harness := (true, "b5e1b5e4441f04f0939489a2b2db9bf0b6d8106fa2c177fdfd742bbbc07c7487"), looks := true }, kinds := [], alts := [], laidByText := true, laidKinds := [.data, .data, .data, .data, .sentinel, .sentinel, .pinned], laidTests := true, laidLooks := .later }
def FormulaPutUptoCardSaid : Prop := Claim7.holds Tryz.pinned (.plain (OpenSpec.upto formulaPutSpec)) formulaPutUptoCard

/-- THE SECOND FORM's CARD OF 'slatewalllaw15.FormulaLaws'. -/
def formulaLawsUptoCard : Claim7 := { stood := { row := formulaLawsUptoRow, standIns := [], harness := (true, "b5e1b5e4441f04f0939489a2b2db9bf0b6d8106fa2c177fdfd742bbbc07c7487"), looks := true }, kinds := [], alts := [], laidByText := true, laidKinds := [.data, .data, .data, .data, .sentinel, .sentinel, .pinned], laidTests := true, laidLooks := .later }
def FormulaLawsUptoCardSaid : Prop := Claim7.holds Tryz.pinned (.plain (OpenSpec.upto formulaLawsSpec)) formulaLawsUptoCard
end Rows
end Go.Proofs.YtchoelgkcnnnkaaGreatDoor
