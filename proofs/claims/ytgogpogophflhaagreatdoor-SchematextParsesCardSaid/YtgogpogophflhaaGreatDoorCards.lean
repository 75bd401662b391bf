/-
  DERIVED. GIVEN WITH THE SEED: THE CARDS: each row of YtgogpogophflhaaGreatDoorRows.lean that lists a variable, with what it lists TIED to the program's text (the seventh form; the later family's looks); each row that meets fmt, with fmt's text TOLD by the authors' own Lean function (tested against real Go, not proved from fmt's source: count such statements apart). THE CARD IS WHAT COUNTS. Prove the row's statement (the work); the ties are given (YtgogpogophflhaaGreatDoorTie.lean); close each card by the builder's one call (the guide's Derived/Test/ToyasCard.lean, 'card_holds'). Laid BY PROGRAM, IN A SANDBOX (cutbox-door.mjs). By AI agents, Wed Nov 11 2026. No macro, syntax, notation, axiom, sorry.
-/
import Derived.Test.YtgogpogophflhaaGreatDoorRows
import GoSem.ClaimSeven
namespace Go.Proofs.YtgogpogophflhaaGreatDoor
namespace Rows

/-- THE TIED CARD OF 'roboticslaw08.SchematextRoundTrip'. -/
def schematextRoundTripCard : Claim7 := { stood := { row := schematextRoundTripRow, standIns := [], harness := (true, "cd255e2a803a45c243eee6471fbe1985a9251eabeeb72924fca72b5f499f1d01"), looks := false }, kinds := [], alts := [], laidByText := true, laidKinds := [.data, .data, .data], laidTests := true, laidLooks := .later }
def SchematextRoundTripCardSaid : Prop := Claim7.holds Tryz.pinned (.plain (OpenSpec.ofChange schematextRoundTripSpec)) schematextRoundTripCard

/-- THE TIED CARD OF 'roboticslaw08.SchematextFormats'. -/
def schematextFormatsCard : Claim7 := { stood := { row := schematextFormatsRow, standIns := [], harness := (true, "cd255e2a803a45c243eee6471fbe1985a9251eabeeb72924fca72b5f499f1d01"), looks := false }, kinds := [], alts := [], laidByText := true, laidKinds := [.data, .data, .data], laidTests := true, laidLooks := .later }
def SchematextFormatsCardSaid : Prop := Claim7.holds Tryz.pinned (.plain (OpenSpec.ofChange schematextFormatsSpec)) schematextFormatsCard

/-- THE TIED CARD OF 'roboticslaw08.SchematextParses'. -/
def schematextParsesCard : Claim7 := { stood := { row := schematextParsesRow, standIns := [], harness := (true, "cd255e2a803a45c243eee6471fbe1985a9251eabeeb72924fca72b5f499f1d01"), looks := false }, kinds := [], alts := [], laidByText := true, laidKinds := [.data, .data, .data], laidTests := true, laidLooks := .later }
def SchematextParsesCardSaid : Prop := Claim7.holds Tryz.pinned (.plain (OpenSpec.ofChange schematextParsesSpec)) schematextParsesCard

/-- THE TIED CARD OF 'roboticslaw08.SchematextTypes'. -/
def schematextTypesCard : Claim7 := { stood := { row := schematextTypesRow, standIns := [], harness := (true, "cd255e2a803a45c243eee6471fbe1985a9251eabeeb72924fca72b5f499f1d01"), looks := false }, kinds := [], alts := [], laidByText := true, laidKinds := [.data, .data, .data], laidTests := true, laidLooks := .later }
def SchematextTypesCardSaid : Prop := Claim7.holds Tryz.pinned (.plain (OpenSpec.ofChange schematextTypesSpec)) schematextTypesCard

/-- THE TIED CARD OF 'roboticslaw08.SchematextReadsTypes'. -/
def schematextReadsTypesCard : Claim7 := { stood := { row := schematextReadsTypesRow, standIns := [], harness := (true, "cd255e2a803a45c243eee6471fbe1985a9251eabeeb72924fca72b5f499f1d01"), looks := false }, kinds := [], alts := [], laidByText := true, laidKinds := [.data, .data, .data], laidTests := true, laidLooks := .later }
def SchematextReadsTypesCardSaid : Prop := Claim7.holds Tryz.pinned (.plain (OpenSpec.ofChange schematextReadsTypesSpec)) schematextReadsTypesCard

/-- THE TIED CARD OF 'roboticslaw08.SchematextLayout'. -/
def schematextLayoutCard : Claim7 := { stood := { row := schematextLayoutRow, standIns := [], harness := (true, "cd255e2a803a45c243eee6471fbe1985a9251eabeeb72924fca72b5f499f1d01"), looks := false }, kinds := [], alts := [], laidByText := true, laidKinds := [.data, .data, .data], laidTests := true, laidLooks := .later }
def SchematextLayoutCardSaid : Prop := Claim7.holds Tryz.pinned (.plain (OpenSpec.ofChange schematextLayoutSpec)) schematextLayoutCard

/-- THE SECOND FORM's CARD OF 'roboticslaw08.SchematextRoundTrip'. -/
def schematextRoundTripUptoCard : Claim7 := { stood := { row := schematextRoundTripUptoRow, standIns := [], harness := (true, "cd255e2a803a45c243eee6471fbe1985a9251eabeeb72924fca72b5f499f1d01"), looks := false }, kinds := [], alts := [], laidByText := true, laidKinds := [.data, .data, .data], laidTests := true, laidLooks := .later }
def SchematextRoundTripUptoCardSaid : Prop := Claim7.holds Tryz.pinned (.plain (OpenSpec.upto schematextRoundTripSpec)) schematextRoundTripUptoCard

/-- THE SECOND FORM's CARD OF 'roboticslaw08.SchematextFormats'. -/
def schematextFormatsUptoCard : Claim7 := { stood := { row := schematextFormatsUptoRow, standIns := [], harness := (true, "cd255e2a803a45c243eee6471fbe1985a9251eabeeb72924fca72b5f499f1d01"), looks := false }, kinds := [], alts := [], laidByText := true, laidKinds := [.data, .data, .data], laidTests := true, laidLooks := .later }
def SchematextFormatsUptoCardSaid : Prop := Claim7.holds Tryz.pinned (.plain (OpenSpec.upto schematextFormatsSpec)) schematextFormatsUptoCard

/-- THE SECOND FORM's CARD OF 'roboticslaw08.SchematextParses'. -/
def schematextParsesUptoCard : Claim7 := { stood := { row := schematextParsesUptoRow, standIns := [], harness := (true, "cd255e2a803a45c243eee6471fbe1985a9251eabeeb72924fca72b5f499f1d01"), looks := false }, kinds := [], alts := [], laidByText := true, laidKinds := [.data, .data, .data], laidTests := true, laidLooks := .later }
def SchematextParsesUptoCardSaid : Prop := Claim7.holds Tryz.pinned (.plain (OpenSpec.upto schematextParsesSpec)) schematextParsesUptoCard

/-- THE SECOND FORM's CARD OF 'roboticslaw08.SchematextTypes'. -/
def schematextTypesUptoCard : Claim7 := { stood := { row := schematextTypesUptoRow, standIns := [], harness := (true, "cd255e2a803a45c243eee6471fbe1985a9251eabeeb72924fca72b5f499f1d01"), looks := false }, kinds := [], alts := [], laidByText := true, laidKinds := [.data, .data, .data], laidTests := true, laidLooks := .later }
def SchematextTypesUptoCardSaid : Prop := Claim7.holds Tryz.pinned (.plain (OpenSpec.upto schematextTypesSpec)) schematextTypesUptoCard

/-- THE SECOND FORM's CARD OF 'roboticslaw08.SchematextReadsTypes'. -/
def schematextReadsTypesUptoCard : Claim7 := { stood := { row := schematextReadsTypesUptoRow, standIns := [], harness := (true, "cd255e2a803a45c243eee6471fbe1985a9251eabeeb72924fca72b5f499f1d01"), looks := false }, kinds := [], alts := [], laidByText := true, laidKinds := [.data, .data, .data], laidTests := true, laidLooks := .later }
def SchematextReadsTypesUptoCardSaid : Prop := Claim7.holds Tryz.pinned (.plain (OpenSpec.upto schematextReadsTypesSpec)) schematextReadsTypesUptoCard

/-- THE SECOND FORM's CARD OF 'roboticslaw08.SchematextLayout'. -/
def schematextLayoutUptoCard : Claim7 := { stood := { row := schematextLayoutUptoRow, standIns := [], harness := (true, "cd255e2a803a45c243eee6471fbe1985a9251eabeeb72924fca72b5f499f1d01"), looks := false }, kinds := [], alts := [], laidByText := true, laidKinds := [.data, .data, .data], laidTests := true, laidLooks := .later }
def SchematextLayoutUptoCardSaid : Prop := Claim7.holds Tryz.pinned (.plain (OpenSpec.upto schematextLayoutSpec)) schematextLayoutUptoCard
end Rows
end Go.Proofs.YtgogpogophflhaaGreatDoor
