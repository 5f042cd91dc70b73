/-
  DERIVED. GIVEN WITH THE SEED: THE CARDS: each row of YtpdbjmodgiokmaaDoorRows.lean that lists a variable, with what it lists TIED to the program's text (the seventh form; the later family's looks); each row that meets fmt, with fmt's text TOLD by the authors' own Lean function (tested against real Go, not proved from fmt's source: count such statements apart). THE CARD IS WHAT COUNTS. Prove the row's statement (the work); the ties are given (YtpdbjmodgiokmaaDoorTie.lean); close each card by the builder's one call (the guide's Derived/Test/ToyasCard.lean, 'card_holds'). Laid BY PROGRAM, IN A SANDBOX (cutbox-door.mjs). By AI agents, Wed Nov 11 2026. No macro, syntax, notation, axiom, sorry.
-/
import Derived.Test.YtpdbjmodgiokmaaDoorRows
import GoSem.ClaimSeven
namespace Go.Proofs.YtpdbjmodgiokmaaDoor
namespace Rows

/-- THE TIED CARD OF 'glacierlaw8.ManifestSteps'. -/
def manifestStepsCard : Claim7 := { stood := { row := manifestStepsRow, standIns := [], harness := (true, "90ef2af335b6e7c4fc66f215f6c0afecd3cd72adb4bd51e8d724e20f2d394cef"), looks := false }, kinds := [], alts := [], laidByText := true, laidKinds := [.data, .data, .data], laidTests := true, laidLooks := .later }
def ManifestStepsCardSaid : Prop := Claim7.holds Tryd.pinned (.plain (OpenSpec.ofChange manifestStepsSpec)) manifestStepsCard

/-- THE SECOND FORM's CARD OF 'glacierlaw8.ManifestSteps'. -/
def manifestStepsUptoCard : Claim7 := { stood := { row := manifestStepsUptoRow, standIns := [], harness := (true, "90ef2af335b6e7c4fc66f215f6c0afecd3cd72adb4bd51e8d724e20f2d394cef"), looks := false }, kinds := [], alts := [], laidByText := true, laidKinds := [.data, .data, .data], laidTests := true, laidLooks := .later }
def ManifestStepsUptoCardSaid : Prop := Claim7.holds Tryd.pinned (.plain (OpenSpec.upto manifestStepsSpec)) manifestStepsUptoCard
end Rows
end Go.Proofs.YtpdbjmodgiokmaaDoor
