/-
  DERIVED. GIVEN WITH THE SEED: THE CARDS: each row of YtpiedpdffkfhpaaDoorRows.lean that lists a variable, with what it lists TIED to the program's text (the seventh form; the later family's looks); each row that meets fmt, with fmt's text TOLD by the authors' own Lean function (tested against real Go, not proved from fmt's source: count such statements apart). THE CARD IS WHAT COUNTS. Prove the row's statement (the work); the ties are given (YtpiedpdffkfhpaaDoorTie.lean); close each card by the builder's one call (the guide's Derived/Test/ToyasCard.lean, 'card_holds'). Laid BY PROGRAM, IN A SANDBOX (cutbox-door.mjs). By AI agents, Wed Nov 11 2026. No macro, syntax, notation, axiom, sorry.
-/
import Derived.Test.YtpiedpdffkfhpaaDoorRows
import GoSem.ClaimSeven
namespace Go.Proofs.YtpiedpdffkfhpaaDoor
namespace Rows

/-- THE TIED CARD OF 'glacierlaw4.WalTorn'. -/
def walTornCard : Claim7 := { stood := { row := walTornRow, standIns := [], harness := (true, "3b4610b14c1fd4ee3bc938d3feb5eaebddc6c98db383b455870d3410bed07c01"), looks := true }, kinds := [], alts := [], laidByText := true, laidKinds := [.data, .data, .data, .sentinel, .sentinel], laidTests := true, laidLooks := .later }
def WalTornCardSaid : Prop := Claim7.holds Tryd.pinned (.plain (OpenSpec.ofChange walTornSpec)) walTornCard

/-- THE TIED CARD OF 'glacierlaw4.WalKeeps'. -/
def walKeepsCard : Claim7 := { stood := { row := walKeepsRow, standIns := [], harness := (true, "3b4610b14c1fd4ee3bc938d3feb5eaebddc6c98db383b455870d3410bed07c01"), looks := true }, kinds := [], alts := [], laidByText := true, laidKinds := [.data, .data, .data, .sentinel, .sentinel], laidTests := true, laidLooks := .later }
def WalKeepsCardSaid : Prop := Claim7.holds Tryd.pinned (.plain (OpenSpec.ofChange walKeepsSpec)) walKeepsCard

/-- THE TIED CARD OF 'glacierlaw4.WalSpans'. -/
def walSpansCard : Claim7 := { stood := { row := walSpansRow, standIns := [], harness := (true, "3b4610b14c1fd4ee3bc938d3feb5eaebddc6c98db383b455870d3410bed07c01"), looks := true }, kinds := [], alts := [], laidByText := true, laidKinds := [.data, .data, .data, .sentinel, .sentinel], laidTests := true, laidLooks := .later }
def WalSpansCardSaid : Prop := Claim7.holds Tryd.pinned (.plain (OpenSpec.ofChange walSpansSpec)) walSpansCard

/-- THE SECOND FORM's CARD OF 'glacierlaw4.WalTorn'. -/
def walTornUptoCard : Claim7 := { stood := { row := walTornUptoRow, standIns := [], harness := (true, "3b4610b14c1fd4ee3bc938d3feb5eaebddc6c98db383b455870d3410bed07c01"), looks := true }, kinds := [], alts := [], laidByText := true, laidKinds := [.data, .data, .data, .sentinel, .sentinel], laidTests := true, laidLooks := .later }
def WalTornUptoCardSaid : Prop := Claim7.holds Tryd.pinned (.plain (OpenSpec.upto walTornSpec)) walTornUptoCard

/-- THE SECOND FORM's CARD OF 'glacierlaw4.WalKeeps'. -/
def walKeepsUptoCard : Claim7 := { stood := { row := walKeepsUptoRow, standIns := [], harness := (true, "3b4610b14c1fd4ee3bc938d3feb5eaebddc6c98db383b455870d3410bed07c01"), looks := true }, kinds := [], alts := [], laidByText := true, laidKinds := [.data, .data, .data, .sentinel, .sentinel], laidTests := true, laidLooks := .later }
def WalKeepsUptoCardSaid : Prop := Claim7.holds Tryd.pinned (.plain (OpenSpec.upto walKeepsSpec)) walKeepsUptoCard

/-- THE SECOND FORM's CARD OF 'glacierlaw4.WalSpans'. -/
def walSpansUptoCard : Claim7 := { stood := { row := walSpansUptoRow, standIns := [], harness := (true, "3b4610b14c1fd4ee3bc938d3feb5eaebddc6c98db383b455870d3410bed07c01"), looks := true }, kinds := [], alts := [], laidByText := true, laidKinds := [.data, .data, .data, .sentinel, .sentinel], laidTests := true, laidLooks := .later }
def WalSpansUptoCardSaid : Prop := Claim7.holds Tryd.pinned (.plain (OpenSpec.upto walSpansSpec)) walSpansUptoCard
end Rows
end Go.Proofs.YtpiedpdffkfhpaaDoor
