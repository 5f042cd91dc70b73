/-
  DERIVED. GIVEN WITH THE SEED: THE CARDS: each row of YtdegmpimcappjaaGreatDoorRows.lean that lists a variable, with what it lists TIED to the program's text (the seventh form; the later family's looks); each row that meets fmt, with fmt's text TOLD by the authors' own Lean function (tested against real Go, not proved from fmt's source: count such statements apart). THE CARD IS WHAT COUNTS. Prove the row's statement (the work); the ties are given (YtdegmpimcappjaaGreatDoorTie.lean); close each card by the builder's one call (the guide's Derived/Test/ToyasCard.lean, 'card_holds'). Laid BY PROGRAM, IN A SANDBOX (cutbox-door.mjs). By AI agents, Wed Nov 11 2026. No macro, syntax, notation, axiom, sorry.
-/
import Derived.Test.YtdegmpimcappjaaGreatDoorRows
import GoSem.ClaimSeven
namespace Go.Proofs.YtdegmpimcappjaaGreatDoor
namespace Rows

/-- THE TIED CARD OF 'glacierlaw16.FrontPrints'. -/
def frontPrintsCard : Claim7 := { stood := { row := frontPrintsRow, standIns := [], harness := (true, "a75fe3d020948dce4085b233839a068552061a83b4233030f09039cddede358b"), looks := true }, kinds := [], alts := [], laidByText := true, laidKinds := [.data, .data, .data, .data, .sentinel, .sentinel, .pinned], laidTests := true, laidLooks := .later }
def FrontPrintsCardSaid : Prop := Claim7.holds Tryz.pinned (.plain (OpenSpec.ofChange frontPrintsSpec)) frontPrintsCard

/-- THE TIED CARD OF 'glacierlaw16.FrontParses'. -/
def frontParsesCard : Claim7 := { stood := { row := frontParsesRow, standIns := [], harness := (true, "a75fe3d020948dce4085b233839a068552061a83b4233030f09039cddede358b"), looks := true }, kinds := [], alts := [], laidByText := true, laidKinds := [.data, .data, .data, .data, .sentinel, .sentinel, .pinned], laidTests := true, laidLooks := .later }
def FrontParsesCardSaid : Prop := Claim7.holds Tryz.pinned (.plain (OpenSpec.ofChange frontParsesSpec)) frontParsesCard

/-- THE TIED CARD OF 'glacierlaw16.FrontLarge'. -/
def frontLargeCard : Claim7 := { stood := { row := frontLargeRow, standIns := [], harness := (true, "a75fe3d020948dce4085b233839a068552061a83b4233030f09039cddede358b"), looks := true }, kinds := [], alts := [], laidByText := true, laidKinds := [.data, .data, .data, .data, .sentinel, .sentinel, .pinned], laidTests := true, laidLooks := .later }
def FrontLargeCardSaid : Prop := Claim7.holds Tryz.pinned (.plain (OpenSpec.ofChange frontLargeSpec)) frontLargeCard

/-- THE TIED CARD OF 'glacierlaw16.FrontBack'. -/
def frontBackCard : Claim7 := { stood := { row := frontBackRow, standIns := [], harness := (true, "a75fe3d020948dce4085b233839a068552061a83b4233030f09039cddede358b"), looks := true }, kinds := [], alts := [], laidByText := true, laidKinds := [.data, .data, .data, .data, .sentinel, .sentinel, .pinned], laidTests := true, laidLooks := .later }
def FrontBackCardSaid : Prop := Claim7.holds Tryz.pinned (.plain (OpenSpec.ofChange frontBackSpec)) frontBackCard

/-- THE TIED CARD OF 'glacierlaw16.FrontCuts'. -/
def frontCutsCard : Claim7 := { stood := { row := frontCutsRow, standIns := [], harness := (true, "a75fe3d020948dce4085b233839a068552061a83b4233030f09039cddede358b"), looks := true }, kinds := [], alts := [], laidByText := true, laidKinds := [.data, .data, .data, .data, .sentinel, .sentinel, .pinned], laidTests := true, laidLooks := .later }
def FrontCutsCardSaid : Prop := Claim7.holds Tryz.pinned (.plain (OpenSpec.ofChange frontCutsSpec)) frontCutsCard

/-- THE TIED CARD OF 'glacierlaw16.FrontUnlike'. -/
def frontUnlikeCard : Claim7 := { stood := { row := frontUnlikeRow, standIns := [], harness := (true, "a75fe3d020948dce4085b233839a068552061a83b4233030f09039cddede358b"), looks := true }, kinds := [], alts := [], laidByText := true, laidKinds := [.data, .data, .data, .data, .sentinel, .sentinel, .pinned], laidTests := true, laidLooks := .later }
def FrontUnlikeCardSaid : Prop := Claim7.holds Tryz.pinned (.plain (OpenSpec.ofChange frontUnlikeSpec)) frontUnlikeCard

/-- THE TIED CARD OF 'glacierlaw16.FrontResults'. -/
def frontResultsCard : Claim7 := { stood := { row := frontResultsRow, standIns := [], harness := (true, "a75fe3d020948dce4085b233839a068552061a83b4233030f09039cddede358b"), looks := true }, kinds := [], alts := [], laidByText := true, laidKinds := [.data, .data, .data, .data, .sentinel, .sentinel, .pinned], laidTests := true, laidLooks := .later }
def FrontResultsCardSaid : Prop := Claim7.holds Tryz.pinned (.plain (OpenSpec.ofChange frontResultsSpec)) frontResultsCard

/-- THE TIED CARD OF 'glacierlaw16.FrontAnswers'. -/
def frontAnswersCard : Claim7 := { stood := { row := frontAnswersRow, standIns := [], harness := (true, "a75fe3d020948dce4085b233839a068552061a83b4233030f09039cddede358b"), looks := true }, kinds := [], alts := [], laidByText := true, laidKinds := [.data, .data, .data, .data, .sentinel, .sentinel, .pinned], laidTests := true, laidLooks := .later }
def FrontAnswersCardSaid : Prop := Claim7.holds Tryz.pinned (.plain (OpenSpec.ofChange frontAnswersSpec)) frontAnswersCard

/-- THE SECOND FORM's CARD OF 'glacierlaw16.FrontPrints'. -/
def frontPrintsUptoCard : Claim7 := { stood := { row := frontPrintsUptoRow, standIns := [], harness := (true, "a75fe3d020948dce4085b233839a068552061a83b4233030f09039cddede358b"), looks := true }, kinds := [], alts := [], laidByText := true, laidKinds := [.data, .data, .data, .data, .sentinel, .sentinel, .pinned], laidTests := true, laidLooks := .later }
def FrontPrintsUptoCardSaid : Prop := Claim7.holds Tryz.pinned (.plain (OpenSpec.upto frontPrintsSpec)) frontPrintsUptoCard

/-- THE SECOND FORM's CARD OF 'glacierlaw16.FrontParses'. -/
def frontParsesUptoCard : Claim7 := { stood := { row := frontParsesUptoRow, standIns := [], harness := (true, "a75fe3d020948dce4085b233839a068552061a83b4233030f09039cddede358b"), looks := true }, kinds := [], alts := [], laidByText := true, laidKinds := [.data, .data, .data, .data, .sentinel, .sentinel, .pinned], laidTests := true, laidLooks := .later }
def FrontParsesUptoCardSaid : Prop := Claim7.holds Tryz.pinned (.plain (OpenSpec.upto frontParsesSpec)) frontParsesUptoCard

/-- THE SECOND FORM's CARD OF 'glacierlaw16.FrontLarge'. -/
def frontLargeUptoCard : Claim7 := { stood := { row := frontLargeUptoRow, standIns := [], harness := (true, "a75fe3d020948dce4085b233839a068552061a83b4233030f09039cddede358b"), looks := true }, kinds := [], alts := [], laidByText := true, laidKinds := [.data, .data, .data, .data, .sentinel, .sentinel, .pinned], laidTests := true, laidLooks := .later }
def FrontLargeUptoCardSaid : Prop := Claim7.holds Tryz.pinned (.plain (OpenSpec.upto frontLargeSpec)) frontLargeUptoCard

/-- THE SECOND FORM's CARD OF 'glacierlaw16.FrontBack'. -/
def frontBackUptoCard : Claim7 := { stood := { row := frontBackUptoRow, standIns := [], harness := (true, "a75fe3d020948dce4085b233839a068552061a83b4233030f09039cddede358b"), looks := true }, kinds := [], alts := [], laidByText := true, laidKinds := [.data, .data, .data, .data, .sentinel, .sentinel, .pinned], laidTests := true, laidLooks := .later }
def FrontBackUptoCardSaid : Prop := Claim7.holds Tryz.pinned (.plain (OpenSpec.upto frontBackSpec)) frontBackUptoCard

/-- THE SECOND FORM's CARD OF 'glacierlaw16.FrontCuts'. -/
def frontCutsUptoCard : Claim7 := { stood := { row := frontCutsUptoRow, standIns := [], harness := (true, "a75fe3d020948dce4085b233839a068552061a83b4233030f09039cddede358b"), looks := true }, kinds := [], alts := [], laidByText := true, laidKinds := [.data, .data, .data, .data, .sentinel, .sentinel, .pinned], laidTests := true, laidLooks := .later }
def FrontCutsUptoCardSaid : Prop := Claim7.holds Tryz.pinned (.plain (OpenSpec.upto frontCutsSpec)) frontCutsUptoCard

/-- THE SECOND FORM's CARD OF 'glacierlaw16.FrontUnlike'. -/
def frontUnlikeUptoCard : Claim7 := { stood := { row := frontUnlikeUptoRow, standIns := [], harness := (true, "a75fe3d020948dce4085b233839a068552061a83b4233030f09039cddede358b"), looks := true }, kinds := [], alts := [], laidByText := true, laidKinds := [.data, .data, .data, .data, .sentinel, .sentinel, .pinned], laidTests := true, laidLooks := .later }
def FrontUnlikeUptoCardSaid : Prop := Claim7.holds Tryz.pinned (.plain (OpenSpec.upto frontUnlikeSpec)) frontUnlikeUptoCard

/-- THE SECOND FORM's CARD OF 'glacierlaw16.FrontResults'. -/
def frontResultsUptoCard : Claim7 := { stood := { row := frontResultsUptoRow, standIns := [], harness := (true, "a75fe3d020948dce4085b233839a068552061a83b4233030f09039cddede358b"), looks := true }, kinds := [], alts := [], laidByText := true, laidKinds := [.data, .data, .data, .data, .sentinel, .sentinel, .pinned], laidTests := true, laidLooks := .later }
def FrontResultsUptoCardSaid : Prop := Claim7.holds Tryz.pinned (.plain (OpenSpec.upto frontResultsSpec)) frontResultsUptoCard

/-- THE SECOND FORM's CARD OF 'glacierlaw16.FrontAnswers'. -/
def frontAnswersUptoCard : Claim7 := { stood := { row := frontAnswersUptoRow, standIns := [], harness := (true, "a75fe3d020948dce4085b233839a068552061a83b4233030f09039cddede358b"), looks := true }, kinds := [], alts := [], laidByText := true, laidKinds := [.data, .data, .data, .data, .sentinel, .sentinel, .pinned], laidTests := true, laidLooks := .later }
def FrontAnswersUptoCardSaid : Prop := Claim7.holds Tryz.pinned (.plain (OpenSpec.upto frontAnswersSpec)) frontAnswersUptoCard
end Rows
end Go.Proofs.YtdegmpimcappjaaGreatDoor
