/-
  DERIVED. GIVEN WITH THE SEED: THE CARDS: each row of YtkpohmhenegkiaaGreatDoorRows.lean that lists a variable, with what it lists TIED to the program's text (the seventh form; the later family's looks); each row that meets fmt, with fmt's text TOLD by the authors' own Lean function (tested against real Go, not proved from fmt's source: count such statements apart). THE CARD IS WHAT COUNTS. Prove the row's statement (the work); the ties are given (YtkpohmhenegkiaaGreatDoorTie.lean); close each card by the builder's one call (the guide's Derived/Test/ToyasCard.lean, 'card_holds'). Laid BY PROGRAM, IN A SANDBOX (cutbox-door.mjs). By AI agents, Wed Nov 11 2026. No macro, syntax, notation, axiom, sorry.
-/
import Derived.Test.YtkpohmhenegkiaaGreatDoorRows
import GoSem.ClaimSeven
namespace Go.Proofs.YtkpohmhenegkiaaGreatDoor
namespace Rows

/-- THE TIED CARD OF 'roboticslaw10.ValuetextFormats'. -/
def valuetextFormatsCard : Claim7 := { stood := { row := valuetextFormatsRow, standIns := [], harness := (true, "1a4f2760b5b978ea5ae8f0e8da809ecc367812bd7d80136dc6f6068eacca327b"), looks := false }, kinds := [], alts := [], laidByText := true, laidKinds := [.data, .data, .data], laidTests := true, laidLooks := .later }
def ValuetextFormatsCardSaid : Prop := Claim7.holds Tryz.pinned (.plain (OpenSpec.ofChange valuetextFormatsSpec)) valuetextFormatsCard

/-- THE TIED CARD OF 'roboticslaw10.ValuetextParses'. -/
def valuetextParsesCard : Claim7 := { stood := { row := valuetextParsesRow, standIns := [], harness := (true, "1a4f2760b5b978ea5ae8f0e8da809ecc367812bd7d80136dc6f6068eacca327b"), looks := false }, kinds := [], alts := [], laidByText := true, laidKinds := [.data, .data, .data], laidTests := true, laidLooks := .later }
def ValuetextParsesCardSaid : Prop := Claim7.holds Tryz.pinned (.plain (OpenSpec.ofChange valuetextParsesSpec)) valuetextParsesCard

/-- THE TIED CARD OF 'roboticslaw10.ValuetextRoundTrip'. -/
def valuetextRoundTripCard : Claim7 := { stood := { row := valuetextRoundTripRow, standIns := [], harness := (true, "1a4f2760b5b978ea5ae8f0e8da809ecc367812bd7d80136dc6f6068eacca327b"), looks := false }, kinds := [], alts := [], laidByText := true, laidKinds := [.data, .data, .data], laidTests := true, laidLooks := .later }
def ValuetextRoundTripCardSaid : Prop := Claim7.holds Tryz.pinned (.plain (OpenSpec.ofChange valuetextRoundTripSpec)) valuetextRoundTripCard

/-- THE TIED CARD OF 'roboticslaw10.ValuetextSpaces'. -/
def valuetextSpacesCard : Claim7 := { stood := { row := valuetextSpacesRow, standIns := [], harness := (true, "1a4f2760b5b978ea5ae8f0e8da809ecc367812bd7d80136dc6f6068eacca327b"), looks := false }, kinds := [], alts := [], laidByText := true, laidKinds := [.data, .data, .data], laidTests := true, laidLooks := .later }
def ValuetextSpacesCardSaid : Prop := Claim7.holds Tryz.pinned (.plain (OpenSpec.ofChange valuetextSpacesSpec)) valuetextSpacesCard

/-- THE TIED CARD OF 'roboticslaw10.ValuetextShortest'. -/
def valuetextShortestCard : Claim7 := { stood := { row := valuetextShortestRow, standIns := [], harness := (true, "1a4f2760b5b978ea5ae8f0e8da809ecc367812bd7d80136dc6f6068eacca327b"), looks := false }, kinds := [], alts := [], laidByText := true, laidKinds := [.data, .data, .data], laidTests := true, laidLooks := .later }
def ValuetextShortestCardSaid : Prop := Claim7.holds Tryz.pinned (.plain (OpenSpec.ofChange valuetextShortestSpec)) valuetextShortestCard

/-- THE SECOND FORM's CARD OF 'roboticslaw10.ValuetextFormats'. -/
def valuetextFormatsUptoCard : Claim7 := { stood := { row := valuetextFormatsUptoRow, standIns := [], harness := (true, "1a4f2760b5b978ea5ae8f0e8da809ecc367812bd7d80136dc6f6068eacca327b"), looks := false }, kinds := [], alts := [], laidByText := true, laidKinds := [.data, .data, .data], laidTests := true, laidLooks := .later }
def ValuetextFormatsUptoCardSaid : Prop := Claim7.holds Tryz.pinned (.plain (OpenSpec.upto valuetextFormatsSpec)) valuetextFormatsUptoCard

/-- THE SECOND FORM's CARD OF 'roboticslaw10.ValuetextParses'. -/
def valuetextParsesUptoCard : Claim7 := { stood := { row := valuetextParsesUptoRow, standIns := [], harness := (true, "1a4f2760b5b978ea5ae8f0e8da809ecc367812bd7d80136dc6f6068eacca327b"), looks := false }, kinds := [], alts := [], laidByText := true, laidKinds := [.data, .data, .data], laidTests := true, laidLooks := .later }
def ValuetextParsesUptoCardSaid : Prop := Claim7.holds Tryz.pinned (.plain (OpenSpec.upto valuetextParsesSpec)) valuetextParsesUptoCard

/-- THE SECOND FORM's CARD OF 'roboticslaw10.ValuetextRoundTrip'. -/
def valuetextRoundTripUptoCard : Claim7 := { stood := { row := valuetextRoundTripUptoRow, standIns := [], harness := (true, "1a4f2760b5b978ea5ae8f0e8da809ecc367812bd7d80136dc6f6068eacca327b"), looks := false }, kinds := [], alts := [], laidByText := true, laidKinds := [.data, .data, .data], laidTests := true, laidLooks := .later }
def ValuetextRoundTripUptoCardSaid : Prop := Claim7.holds Tryz.pinned (.plain (OpenSpec.upto valuetextRoundTripSpec)) valuetextRoundTripUptoCard

/-- THE SECOND FORM's CARD OF 'roboticslaw10.ValuetextSpaces'. -/
def valuetextSpacesUptoCard : Claim7 := { stood := { row := valuetextSpacesUptoRow, standIns := [], harness := (true, "1a4f2760b5b978ea5ae8f0e8da809ecc367812bd7d80136dc6f6068eacca327b"), looks := false }, kinds := [], alts := [], laidByText := true, laidKinds := [.data, .data, .data], laidTests := true, laidLooks := .later }
def ValuetextSpacesUptoCardSaid : Prop := Claim7.holds Tryz.pinned (.plain (OpenSpec.upto valuetextSpacesSpec)) valuetextSpacesUptoCard

/-- THE SECOND FORM's CARD OF 'roboticslaw10.ValuetextShortest'. -/
def valuetextShortestUptoCard : Claim7 := { stood := { row := valuetextShortestUptoRow, standIns := [], harness := (true, "1a4f2760b5b978ea5ae8f0e8da809ecc367812bd7d80136dc6f6068eacca327b"), looks := false }, kinds := [], alts := [], laidByText := true, laidKinds := [.data, .data, .data], laidTests := true, laidLooks := .later }
def ValuetextShortestUptoCardSaid : Prop := Claim7.holds Tryz.pinned (.plain (OpenSpec.upto valuetextShortestSpec)) valuetextShortestUptoCard
end Rows
end Go.Proofs.YtkpohmhenegkiaaGreatDoor
