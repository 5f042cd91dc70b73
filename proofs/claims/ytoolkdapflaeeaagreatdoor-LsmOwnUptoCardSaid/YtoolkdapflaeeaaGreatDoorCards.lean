/-
  DERIVED. GIVEN WITH THE SEED: THE CARDS: each row of YtoolkdapflaeeaaGreatDoorRows.lean that lists a variable, with what it lists TIED to the program's text (the seventh form; the later family's looks); each row that meets fmt, with fmt's text TOLD by the authors' own Lean function (tested against real Go, not proved from fmt's source: count such statements apart). THE CARD IS WHAT COUNTS. Prove the row's statement (the work); the ties are given (YtoolkdapflaeeaaGreatDoorTie.lean); close each card by the builder's one call (the guide's Derived/Test/ToyasCard.lean, 'card_holds'). Laid BY PROGRAM, IN A SANDBOX (cutbox-door.mjs). By AI agents, Wed Nov 11 2026. No macro, syntax, notation, axiom, sorry.
-/
import Derived.Test.YtoolkdapflaeeaaGreatDoorRows
import GoSem.ClaimSeven
namespace Go.Proofs.YtoolkdapflaeeaaGreatDoor
namespace Rows

/-- THE TIED CARD OF 'glacierlaw10.LsmLast'. -/
def lsmLastCard : Claim7 := { stood := { row := lsmLastRow, standIns := [], harness := (true, "bd35c95ab78aec09c5a8518f2f51ca762004993995c2179da338b4790cd8072d"), looks := true }, kinds := [], alts := [], laidByText := true, laidKinds := [.data, .data, .data, .sentinel, .sentinel], laidTests := true, laidLooks := .later }
def LsmLastCardSaid : Prop := Claim7.holds Tryz.pinned (.plain (OpenSpec.ofChange lsmLastSpec)) lsmLastCard

/-- THE TIED CARD OF 'glacierlaw10.LsmOwn'. -/
def lsmOwnCard : Claim7 := { stood := { row := lsmOwnRow, standIns := [], harness := (true, "bd35c95ab78aec09c5a8518f2f51ca762004993995c2179da338b4790cd8072d"), looks := true }, kinds := [], alts := [], laidByText := true, laidKinds := [.data, .data, .data, .sentinel, .sentinel], laidTests := true, laidLooks := .later }
def LsmOwnCardSaid : Prop := Claim7.holds Tryz.pinned (.plain (OpenSpec.ofChange lsmOwnSpec)) lsmOwnCard

/-- THE TIED CARD OF 'glacierlaw10.LsmErrors'. -/
def lsmErrorsCard : Claim7 := { stood := { row := lsmErrorsRow, standIns := [], harness := (true, "bd35c95ab78aec09c5a8518f2f51ca762004993995c2179da338b4790cd8072d"), looks := true }, kinds := [], alts := [], laidByText := true, laidKinds := [.data, .data, .data, .sentinel, .sentinel], laidTests := true, laidLooks := .later }
def LsmErrorsCardSaid : Prop := Claim7.holds Tryz.pinned (.plain (OpenSpec.ofChange lsmErrorsSpec)) lsmErrorsCard

/-- THE TIED CARD OF 'glacierlaw10.LsmMaps'. -/
def lsmMapsCard : Claim7 := { stood := { row := lsmMapsRow, standIns := [], harness := (true, "bd35c95ab78aec09c5a8518f2f51ca762004993995c2179da338b4790cd8072d"), looks := true }, kinds := [], alts := [], laidByText := true, laidKinds := [.data, .data, .data, .sentinel, .sentinel], laidTests := true, laidLooks := .later }
def LsmMapsCardSaid : Prop := Claim7.holds Tryz.pinned (.plain (OpenSpec.ofChange lsmMapsSpec)) lsmMapsCard

/-- THE TIED CARD OF 'glacierlaw10.LsmScans'. -/
def lsmScansCard : Claim7 := { stood := { row := lsmScansRow, standIns := [], harness := (true, "bd35c95ab78aec09c5a8518f2f51ca762004993995c2179da338b4790cd8072d"), looks := true }, kinds := [], alts := [], laidByText := true, laidKinds := [.data, .data, .data, .sentinel, .sentinel], laidTests := true, laidLooks := .later }
def LsmScansCardSaid : Prop := Claim7.holds Tryz.pinned (.plain (OpenSpec.ofChange lsmScansSpec)) lsmScansCard

/-- THE TIED CARD OF 'glacierlaw10.LsmRests'. -/
def lsmRestsCard : Claim7 := { stood := { row := lsmRestsRow, standIns := [], harness := (true, "bd35c95ab78aec09c5a8518f2f51ca762004993995c2179da338b4790cd8072d"), looks := true }, kinds := [], alts := [], laidByText := true, laidKinds := [.data, .data, .data, .sentinel, .sentinel], laidTests := true, laidLooks := .later }
def LsmRestsCardSaid : Prop := Claim7.holds Tryz.pinned (.plain (OpenSpec.ofChange lsmRestsSpec)) lsmRestsCard

/-- THE TIED CARD OF 'glacierlaw10.LsmAlike'. -/
def lsmAlikeCard : Claim7 := { stood := { row := lsmAlikeRow, standIns := [], harness := (true, "bd35c95ab78aec09c5a8518f2f51ca762004993995c2179da338b4790cd8072d"), looks := true }, kinds := [], alts := [], laidByText := true, laidKinds := [.data, .data, .data, .sentinel, .sentinel], laidTests := true, laidLooks := .later }
def LsmAlikeCardSaid : Prop := Claim7.holds Tryz.pinned (.plain (OpenSpec.ofChange lsmAlikeSpec)) lsmAlikeCard

/-- THE SECOND FORM's CARD OF 'glacierlaw10.LsmLast'. -/
def lsmLastUptoCard : Claim7 := { stood := { row := lsmLastUptoRow, standIns := [], harness := (true, "bd35c95ab78aec09c5a8518f2f51ca762004993995c2179da338b4790cd8072d"), looks := true }, kinds := [], alts := [], laidByText := true, laidKinds := [.data, .data, .data, .sentinel, .sentinel], laidTests := true, laidLooks := .later }
def LsmLastUptoCardSaid : Prop := Claim7.holds Tryz.pinned (.plain (OpenSpec.upto lsmLastSpec)) lsmLastUptoCard

/-- THE SECOND FORM's CARD OF 'glacierlaw10.LsmOwn'. -/
def lsmOwnUptoCard : Claim7 := { stood := { row := lsmOwnUptoRow, standIns := [], harness := (true, "bd35c95ab78aec09c5a8518f2f51ca762004993995c2179da338b4790cd8072d"), looks := true }, kinds := [], alts := [], laidByText := true, laidKinds := [.data, .data, .data, .sentinel, .sentinel], laidTests := true, laidLooks := .later }
def LsmOwnUptoCardSaid : Prop := Claim7.holds Tryz.pinned (.plain (OpenSpec.upto lsmOwnSpec)) lsmOwnUptoCard

/-- THE SECOND FORM's CARD OF 'glacierlaw10.LsmErrors'. -/
def lsmErrorsUptoCard : Claim7 := { stood := { row := lsmErrorsUptoRow, standIns := [], harness := (true, "bd35c95ab78aec09c5a8518f2f51ca762004993995c2179da338b4790cd8072d"), looks := true }, kinds := [], alts := [], laidByText := true, laidKinds := [.data, .data, .data, .sentinel, .sentinel], laidTests := true, laidLooks := .later }
def LsmErrorsUptoCardSaid : Prop := Claim7.holds Tryz.pinned (.plain (OpenSpec.upto lsmErrorsSpec)) lsmErrorsUptoCard

/-- THE SECOND FORM's CARD OF 'glacierlaw10.LsmMaps'. -/
def lsmMapsUptoCard : Claim7 := { stood := { row := lsmMapsUptoRow, standIns := [], harness := (true, "bd35c95ab78aec09c5a8518f2f51ca762004993995c2179da338b4790cd8072d"), looks := true }, kinds := [], alts := [], laidByText := true, laidKinds := [.data, .data, .data, .sentinel, .sentinel], laidTests := true, laidLooks := .later }
def LsmMapsUptoCardSaid : Prop := Claim7.holds Tryz.pinned (.plain (OpenSpec.upto lsmMapsSpec)) lsmMapsUptoCard

/-- THE SECOND FORM's CARD OF 'glacierlaw10.LsmScans'. -/
def lsmScansUptoCard : Claim7 := { stood := { row := lsmScansUptoRow, standIns := [], harness := (true, "bd35c95ab78aec09c5a8518f2f51ca762004993995c2179da338b4790cd8072d"), looks := true }, kinds := [], alts := [], laidByText := true, laidKinds := [.data, .data, .data, .sentinel, .sentinel], laidTests := true, laidLooks := .later }
def LsmScansUptoCardSaid : Prop := Claim7.holds Tryz.pinned (.plain (OpenSpec.upto lsmScansSpec)) lsmScansUptoCard

/-- THE SECOND FORM's CARD OF 'glacierlaw10.LsmRests'. -/
def lsmRestsUptoCard : Claim7 := { stood := { row := lsmRestsUptoRow, standIns := [], harness := (true, "bd35c95ab78aec09c5a8518f2f51ca762004993995c2179da338b4790cd8072d"), looks := true }, kinds := [], alts := [], laidByText := true, laidKinds := [.data, .data, .data, .sentinel, .sentinel], laidTests := true, laidLooks := .later }
def LsmRestsUptoCardSaid : Prop := Claim7.holds Tryz.pinned (.plain (OpenSpec.upto lsmRestsSpec)) lsmRestsUptoCard

/-- THE SECOND FORM's CARD OF 'glacierlaw10.LsmAlike'. -/
def lsmAlikeUptoCard : Claim7 := { stood := { row := lsmAlikeUptoRow, standIns := [], harness := (true, "bd35c95ab78aec09c5a8518f2f51ca762004993995c2179da338b4790cd8072d"), looks := true }, kinds := [], alts := [], laidByText := true, laidKinds := [.data, .data, .data, .sentinel, .sentinel], laidTests := true, laidLooks := .later }
def LsmAlikeUptoCardSaid : Prop := Claim7.holds Tryz.pinned (.plain (OpenSpec.upto lsmAlikeSpec)) lsmAlikeUptoCard
end Rows
end Go.Proofs.YtoolkdapflaeeaaGreatDoor
