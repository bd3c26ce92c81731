/-
  DERIVED. GIVEN WITH THE SEED: THE CARDS: each row of YtnplidplamoejaaGreatDoorRows.lean that lists a variable, with what it lists TIED to the program's text (the seventh form; the later family's looks); each row that meets fmt, with fmt's text TOLD by the authors' own Lean function (tested against real Go, not proved from fmt's source: count such statements apart). THE CARD IS WHAT COUNTS. Prove the row's statement (the work); the ties are given (YtnplidplamoejaaGreatDoorTie.lean); close each card by the builder's one call (the guide's Derived/Test/ToyasCard.lean, 'card_holds'). Laid BY PROGRAM, IN A SANDBOX (cutbox-door.mjs). By AI agents, Wed Nov 11 2026. No macro, syntax, notation, axiom, sorry.
-/
import Derived.Test.YtnplidplamoejaaGreatDoorRows
import GoSem.ClaimSeven
namespace Go.Proofs.YtnplidplamoejaaGreatDoor
namespace Rows

/-- THE TIED CARD OF 'litmuslaw11.ValueParses'. -/
def valueParsesCard : Claim7 := { stood := { row := valueParsesRow, standIns := [], harness := (true, "38f1c888a1d3c3d8bfe8831941f7a2d8d08dad849a5156daf29c60c76ab774f0"), looks := false }, kinds := [], alts := [], laidByText := true, laidKinds := [.data, .data, .data, .data, .pinned], laidTests := true, laidLooks := .later }
def ValueParsesCardSaid : Prop := Claim7.holds Tryz.pinned (.plain (OpenSpec.ofChange valueParsesSpec)) valueParsesCard

/-- THE TIED CARD OF 'litmuslaw11.ValueShares'. -/
def valueSharesCard : Claim7 := { stood := { row := valueSharesRow, standIns := [], harness := (true, "38f1c888a1d3c3d8bfe8831941f7a2d8d08dad849a5156daf29c60c76ab774f0"), looks := false }, kinds := [], alts := [], laidByText := true, laidKinds := [.data, .data, .data, .data, .pinned], laidTests := true, laidLooks := .later }
def ValueSharesCardSaid : Prop := Claim7.holds Tryz.pinned (.plain (OpenSpec.ofChange valueSharesSpec)) valueSharesCard

/-- THE TIED CARD OF 'litmuslaw11.ValueSizes'. -/
def valueSizesCard : Claim7 := { stood := { row := valueSizesRow, standIns := [], harness := (true, "38f1c888a1d3c3d8bfe8831941f7a2d8d08dad849a5156daf29c60c76ab774f0"), looks := false }, kinds := [], alts := [], laidByText := true, laidKinds := [.data, .data, .data, .data, .pinned], laidTests := true, laidLooks := .later }
def ValueSizesCardSaid : Prop := Claim7.holds Tryz.pinned (.plain (OpenSpec.ofChange valueSizesSpec)) valueSizesCard

/-- THE TIED CARD OF 'litmuslaw11.ValueOrder'. -/
def valueOrderCard : Claim7 := { stood := { row := valueOrderRow, standIns := [], harness := (true, "38f1c888a1d3c3d8bfe8831941f7a2d8d08dad849a5156daf29c60c76ab774f0"), looks := false }, kinds := [], alts := [], laidByText := true, laidKinds := [.data, .data, .data, .data, .pinned], laidTests := true, laidLooks := .later }
def ValueOrderCardSaid : Prop := Claim7.holds Tryz.pinned (.plain (OpenSpec.ofChange valueOrderSpec)) valueOrderCard

/-- THE TIED CARD OF 'litmuslaw11.ValueTexts'. -/
def valueTextsCard : Claim7 := { stood := { row := valueTextsRow, standIns := [], harness := (true, "38f1c888a1d3c3d8bfe8831941f7a2d8d08dad849a5156daf29c60c76ab774f0"), looks := false }, kinds := [], alts := [], laidByText := true, laidKinds := [.data, .data, .data, .data, .pinned], laidTests := true, laidLooks := .later }
def ValueTextsCardSaid : Prop := Claim7.holds Tryz.pinned (.plain (OpenSpec.ofChange valueTextsSpec)) valueTextsCard

/-- THE TIED CARD OF 'litmuslaw11.ValueSets'. -/
def valueSetsCard : Claim7 := { stood := { row := valueSetsRow, standIns := [], harness := (true, "38f1c888a1d3c3d8bfe8831941f7a2d8d08dad849a5156daf29c60c76ab774f0"), looks := false }, kinds := [], alts := [], laidByText := true, laidKinds := [.data, .data, .data, .data, .pinned], laidTests := true, laidLooks := .later }
def ValueSetsCardSaid : Prop := Claim7.holds Tryz.pinned (.plain (OpenSpec.ofChange valueSetsSpec)) valueSetsCard

/-- THE TIED CARD OF 'litmuslaw11.ValueKnown'. -/
def valueKnownCard : Claim7 := { stood := { row := valueKnownRow, standIns := [], harness := (true, "38f1c888a1d3c3d8bfe8831941f7a2d8d08dad849a5156daf29c60c76ab774f0"), looks := false }, kinds := [], alts := [], laidByText := true, laidKinds := [.data, .data, .data, .data, .pinned], laidTests := true, laidLooks := .later }
def ValueKnownCardSaid : Prop := Claim7.holds Tryz.pinned (.plain (OpenSpec.ofChange valueKnownSpec)) valueKnownCard

/-- THE TIED CARD OF 'litmuslaw11.ValueRights'. -/
def valueRightsCard : Claim7 := { stood := { row := valueRightsRow, standIns := [], harness := (true, "38f1c888a1d3c3d8bfe8831941f7a2d8d08dad849a5156daf29c60c76ab774f0"), looks := false }, kinds := [], alts := [], laidByText := true, laidKinds := [.data, .data, .data, .data, .pinned], laidTests := true, laidLooks := .later }
def ValueRightsCardSaid : Prop := Claim7.holds Tryz.pinned (.plain (OpenSpec.ofChange valueRightsSpec)) valueRightsCard

/-- THE TIED CARD OF 'litmuslaw11.ValueMakes'. -/
def valueMakesCard : Claim7 := { stood := { row := valueMakesRow, standIns := [], harness := (true, "38f1c888a1d3c3d8bfe8831941f7a2d8d08dad849a5156daf29c60c76ab774f0"), looks := false }, kinds := [], alts := [], laidByText := true, laidKinds := [.data, .data, .data, .data, .pinned], laidTests := true, laidLooks := .later }
def ValueMakesCardSaid : Prop := Claim7.holds Tryz.pinned (.plain (OpenSpec.ofChange valueMakesSpec)) valueMakesCard

/-- THE TIED CARD OF 'litmuslaw11.ValueTells'. -/
def valueTellsCard : Claim7 := { stood := { row := valueTellsRow, standIns := [], harness := (true, "38f1c888a1d3c3d8bfe8831941f7a2d8d08dad849a5156daf29c60c76ab774f0"), looks := false }, kinds := [], alts := [], laidByText := true, laidKinds := [.data, .data, .data, .data, .pinned], laidTests := true, laidLooks := .later }
def ValueTellsCardSaid : Prop := Claim7.holds Tryz.pinned (.plain (OpenSpec.ofChange valueTellsSpec)) valueTellsCard

/-- THE SECOND FORM's CARD OF 'litmuslaw11.ValueParses'. -/
def valueParsesUptoCard : Claim7 := { stood := { row := valueParsesUptoRow, standIns := [], harness := (true, "38f1c888a1d3c3d8bfe8831941f7a2d8d08dad849a5156daf29c60c76ab774f0"), looks := false }, kinds := [], alts := [], laidByText := true, laidKinds := [.data, .data, .data, .data, .pinned], laidTests := true, laidLooks := .later }
def ValueParsesUptoCardSaid : Prop := Claim7.holds Tryz.pinned (.plain (OpenSpec.upto valueParsesSpec)) valueParsesUptoCard

/-- THE SECOND FORM's CARD OF 'litmuslaw11.ValueShares'. -/
def valueSharesUptoCard : Claim7 := { stood := { row := valueSharesUptoRow, standIns := [], harness := (true, "38f1c888a1d3c3d8bfe8831941f7a2d8d08dad849a5156daf29c60c76ab774f0"), looks := false }, kinds := [], alts := [], laidByText := true, laidKinds := [.data, .data, .data, .data, .pinned], laidTests := true, laidLooks := .later }
def ValueSharesUptoCardSaid : Prop := Claim7.holds Tryz.pinned (.plain (OpenSpec.upto valueSharesSpec)) valueSharesUptoCard

/-- THE SECOND FORM's CARD OF 'litmuslaw11.ValueSizes'. -/
def valueSizesUptoCard : Claim7 := { stood := { row := valueSizesUptoRow, standIns := [], harness := (true, "38f1c888a1d3c3d8bfe8831941f7a2d8d08dad849a5156daf29c60c76ab774f0"), looks := false }, kinds := [], alts := [], laidByText := true, laidKinds := [.data, .data, .data, .data, .pinned], laidTests := true, laidLooks := .later }
def ValueSizesUptoCardSaid : Prop := Claim7.holds Tryz.pinned (.plain (OpenSpec.upto valueSizesSpec)) valueSizesUptoCard

/-- THE SECOND FORM's CARD OF 'litmuslaw11.ValueOrder'. -/
def valueOrderUptoCard : Claim7 := { stood := { row := valueOrderUptoRow, standIns := [], harness := (true, "38f1c888a1d3c3d8bfe8831941f7a2d8d08dad849a5156daf29c60c76ab774f0"), looks := false }, kinds := [], alts := [], laidByText := true, laidKinds := [.data, .data, .data, .data, .pinned], laidTests := true, laidLooks := .later }
def ValueOrderUptoCardSaid : Prop := Claim7.holds Tryz.pinned (.plain (OpenSpec.upto valueOrderSpec)) valueOrderUptoCard

/-- THE SECOND FORM's CARD OF 'litmuslaw11.ValueTexts'. -/
def valueTextsUptoCard : Claim7 := { stood := { row := valueTextsUptoRow, standIns := [], harness := (true, "38f1c888a1d3c3d8bfe8831941f7a2d8d08dad849a5156daf29c60c76ab774f0"), looks := false }, kinds := [], alts := [], laidByText := true, laidKinds := [.data, .data, .data, .data, .pinned], laidTests := true, laidLooks := .later }
def ValueTextsUptoCardSaid : Prop := Claim7.holds Tryz.pinned (.plain (OpenSpec.upto valueTextsSpec)) valueTextsUptoCard

/-- THE SECOND FORM's CARD OF 'litmuslaw11.ValueSets'. -/
def valueSetsUptoCard : Claim7 := { stood := { row := valueSetsUptoRow, standIns := [], harness := (true, "38f1c888a1d3c3d8bfe8831941f7a2d8d08dad849a5156daf29c60c76ab774f0"), looks := false }, kinds := [], alts := [], laidByText := true, laidKinds := [.data, .data, .data, .data, .pinned], laidTests := true, laidLooks := .later }
def ValueSetsUptoCardSaid : Prop := Claim7.holds Tryz.pinned (.plain (OpenSpec.upto valueSetsSpec)) valueSetsUptoCard

/-- THE SECOND FORM's CARD OF 'litmuslaw11.ValueKnown'. -/
def valueKnownUptoCard : Claim7 := { stood := { row := valueKnownUptoRow, standIns := [], harness := (true, "38f1c888a1d3c3d8bfe8831941f7a2d8d08dad849a5156daf29c60c76ab774f0"), looks := false }, kinds := [], alts := [], laidByText := true, laidKinds := [.data, .data, .data, .data, .pinned], laidTests := true, laidLooks := .later }
def ValueKnownUptoCardSaid : Prop := Claim7.holds Tryz.pinned (.plain (OpenSpec.upto valueKnownSpec)) valueKnownUptoCard

/-- THE SECOND FORM's CARD OF 'litmuslaw11.ValueRights'. -/
def valueRightsUptoCard : Claim7 := { stood := { row := valueRightsUptoRow, standIns := [], harness := (true, "38f1c888a1d3c3d8bfe8831941f7a2d8d08dad849a5156daf29c60c76ab774f0"), looks := false }, kinds := [], alts := [], laidByText := true, laidKinds := [.data, .data, .data, .data, .pinned], laidTests := true, laidLooks := .later }
def ValueRightsUptoCardSaid : Prop := Claim7.holds Tryz.pinned (.plain (OpenSpec.upto valueRightsSpec)) valueRightsUptoCard

/-- THE SECOND FORM's CARD OF 'litmuslaw11.ValueMakes'. -/
def valueMakesUptoCard : Claim7 := { stood := { row := valueMakesUptoRow, standIns := [], harness := (true, "38f1c888a1d3c3d8bfe8831941f7a2d8d08dad849a5156daf29c60c76ab774f0"), looks := false }, kinds := [], alts := [], laidByText := true, laidKinds := [.data, .data, .data, .data, .pinned], laidTests := true, laidLooks := .later }
def ValueMakesUptoCardSaid : Prop := Claim7.holds Tryz.pinned (.plain (OpenSpec.upto valueMakesSpec)) valueMakesUptoCard

/-- THE SECOND FORM's CARD OF 'litmuslaw11.ValueTells'. -/
def valueTellsUptoCard : Claim7 := { stood := { row := valueTellsUptoRow, standIns := [], harness := (true, "38f1c888a1d3c3d8bfe8831941f7a2d8d08dad849a5156daf29c60c76ab774f0"), looks := false }, kinds := [], alts := [], laidByText := true, laidKinds := [.data, .data, .data, .data, .pinned], laidTests := true, laidLooks := .later }
def ValueTellsUptoCardSaid : Prop := Claim7.holds Tryz.pinned (.plain (OpenSpec.upto valueTellsSpec)) valueTellsUptoCard
end Rows
end Go.Proofs.YtnplidplamoejaaGreatDoor
