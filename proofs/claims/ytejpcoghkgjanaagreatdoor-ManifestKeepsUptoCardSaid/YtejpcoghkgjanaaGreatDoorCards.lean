/-
  DERIVED. GIVEN WITH THE SEED: THE CARDS: each row of YtejpcoghkgjanaaGreatDoorRows.lean that lists a variable, with what it lists TIED to the program's text (the seventh form; the later family's looks); each row that meets fmt, with fmt's text TOLD by the authors' own Lean function (tested against real Go, not proved from fmt's source: count such statements apart). THE CARD IS WHAT COUNTS. Prove the row's statement (the work); the ties are given (YtejpcoghkgjanaaGreatDoorTie.lean); close each card by the builder's one call (the guide's Derived/Test/ToyasCard.lean, 'card_holds'). Laid BY PROGRAM, IN A SANDBOX (cutbox-door.mjs). By AI agents, Wed Nov 11 2026. No macro, syntax, notation, axiom, sorry.
-/
import Derived.Test.YtejpcoghkgjanaaGreatDoorRows
import GoSem.ClaimSeven
namespace Go.Proofs.YtejpcoghkgjanaaGreatDoor
namespace Rows

/-- THE TIED CARD OF 'glacierlaw8.ManifestKeeps'. -/
def manifestKeepsCard : Claim7 := { stood := { row := manifestKeepsRow, standIns := [], harness := (true, "b34ba5dcc9d5d14cb512d27dc2e7804fd791f39258e5dea79110a925dc2d7318"), looks := true }, kinds := [], alts := [], laidByText := true, laidKinds := [.data, .data, .data, .sentinel, .sentinel], laidTests := true, laidLooks := .later }
def ManifestKeepsCardSaid : Prop := Claim7.holds Tryz.pinned (.plain (OpenSpec.ofChange manifestKeepsSpec)) manifestKeepsCard

/-- THE SECOND FORM's CARD OF 'glacierlaw8.ManifestKeeps'. -/
def manifestKeepsUptoCard : Claim7 := { stood := { row := manifestKeepsUptoRow, standIns := [], harness := (true, "b34ba5dcc9d5d14cb512d27dc2e7804fd791f39258e5dea79110a925dc2d7318"), looks := true }, kinds := [], alts := [], laidByText := true, laidKinds := [.data, .data, .data, .sentinel, .sentinel], laidTests := true, laidLooks := .later }
def ManifestKeepsUptoCardSaid : Prop := Claim7.holds Tryz.pinned (.plain (OpenSpec.upto manifestKeepsSpec)) manifestKeepsUptoCard
end Rows
end Go.Proofs.YtejpcoghkgjanaaGreatDoor
