/-
  No cell of these rows narrows 'for every input' (looked for: loops, veiled, ifaces, maps, wideKeys, modest, calm, conditions, laid).
  DERIVED. THE GIVEN ROWS OF THIS SEAT. 3 by the template 'for every input the law returns true; each argument reads behind the call as it read before'; 0 by the template 'total and deterministic' (their statements: YtfchjoejdijjeaaTotals.lean).
  GIVEN WITH THE SEED: the statements are not yours to turn. If you find one false, say at which input.
  Laid BY PROGRAM, IN A SANDBOX (cutbox-rows.mjs): the forced cells as the released guide's own fill.sh prints them over the translation 83ccb74fd3c32544… (all of the seat's roots in one cut). By AI agents, Wed Nov 11 2026. No macro, syntax, notation, axiom, sorry.
-/
import Derived.Test.YtfchjoejdijjeaaChecked
import GoSem.Claim
import GoSem.ClaimJoined
import GoSem.ClaimMapViews
import Derived.JoinedTies
import Derived.KernelRfl
namespace Go.Proofs.Ytfchjoejdijjeaa
/- THE CELL 'sum', in the pinned program and in every row, IS THE sha256 OF THE DUMP (.gsa) THAT YtfchjoejdijjeaaProg.lean LOADS. Nothing in Lean hashes anything: it is a label: what it is worth is what the hold of that sum in a sandbox is worth. -/
noncomputable def Try.pinned : Pinned := { name := "ytfchjoejdijjeaa", sum := "83ccb74fd3c325441a81ef03de7eea7c29b0412c3a67e021775e8ba7dec7b124", checked := Try.checked }
namespace Rows
def none {H : Type} : Left H := { results := [], args := [] }

/-- 'glacierlaw19.ChainAgrees': WHATEVER THE INPUT: true; the input reads as it did. -/
def chainAgreesSpec : ChangeSpec := { name := "chainAgrees", fn := fun _ => fun
  | [d1, d2] => { results := [.lit (.bool true)], args := [d1, d2] }
  | _ => none }
def chainAgreesRow : OpenClaim := { program := "ytfchjoejdijjeaa", sum := "83ccb74fd3c325441a81ef03de7eea7c29b0412c3a67e021775e8ba7dec7b124", func := "glacier/glacierlaw19.ChainAgrees", spec := "chainAgrees", unfollowed := true, recurses := true, apart := false }
def ChainAgreesSaid : Prop := chainAgreesRow.holds Try.pinned (OpenSpec.ofChange chainAgreesSpec)

/-- ITS FALSE NEIGHBOUR: 'it returns false'. Refute it at one input. -/
def chainAgreesWrong : ChangeSpec := { name := "chainAgrees", fn := fun _ => fun
  | [d1, d2] => { results := [.lit (.bool false)], args := [d1, d2] }
  | _ => none }
def ChainAgreesWrongFalsely : Prop := chainAgreesRow.holds Try.pinned (OpenSpec.ofChange chainAgreesWrong)

/-- 'glacierlaw19.ChainLine': WHATEVER THE INPUT: true; the input reads as it did. -/
def chainLineSpec : ChangeSpec := { name := "chainLine", fn := fun _ => fun
  | [d1, d2] => { results := [.lit (.bool true)], args := [d1, d2] }
  | _ => none }
def chainLineRow : OpenClaim := { program := "ytfchjoejdijjeaa", sum := "83ccb74fd3c325441a81ef03de7eea7c29b0412c3a67e021775e8ba7dec7b124", func := "glacier/glacierlaw19.ChainLine", spec := "chainLine", unfollowed := true, recurses := true, apart := false }
def ChainLineSaid : Prop := chainLineRow.holds Try.pinned (OpenSpec.ofChange chainLineSpec)

/-- ITS FALSE NEIGHBOUR: 'it returns false'. Refute it at one input. -/
def chainLineWrong : ChangeSpec := { name := "chainLine", fn := fun _ => fun
  | [d1, d2] => { results := [.lit (.bool false)], args := [d1, d2] }
  | _ => none }
def ChainLineWrongFalsely : Prop := chainLineRow.holds Try.pinned (OpenSpec.ofChange chainLineWrong)

/-- 'glacierlaw19.ChainFenced': WHATEVER THE INPUT: true; the input reads as it did. -/
def chainFencedSpec : ChangeSpec := { name := "chainFenced", fn := fun _ => fun
  | [d1, d2] => { results := [.lit (.bool true)], args := [d1, d2] }
  | _ => none }
def chainFencedRow : OpenClaim := { program := "ytfchjoejdijjeaa", sum := "83ccb74fd3c325441a81ef03de7eea7c29b0412c3a67e021775e8ba7dec7b124", func := "glacier/glacierlaw19.ChainFenced", spec := "chainFenced", unfollowed := true, recurses := true, apart := false }
def ChainFencedSaid : Prop := chainFencedRow.holds Try.pinned (OpenSpec.ofChange chainFencedSpec)

/-- ITS FALSE NEIGHBOUR: 'it returns false'. Refute it at one input. -/
def chainFencedWrong : ChangeSpec := { name := "chainFenced", fn := fun _ => fun
  | [d1, d2] => { results := [.lit (.bool false)], args := [d1, d2] }
  | _ => none }
def ChainFencedWrongFalsely : Prop := chainFencedRow.holds Try.pinned (OpenSpec.ofChange chainFencedWrong)

/- THE SECOND FORM. 'bulk': how many values and letters a reading holds, each counted each time it is reached (what is shared counts as often as it is met; a slice's spare places count too). A statement '..UptoSaid' is the law's where the arguments, and the package variables that the reading takes, are together of bulk at most 1048576: NARROWER than '..Said'. Prove '..Said' where nothing that the law and all that it calls make is longer than what came in: it says more and counts as full. Else prove '..UptoSaid'. A law counts once. -/
mutual
def uptoBulk {H : Type} : DataW H → Nat
  | .lit (.string bytes) => bytes.length + 1
  | .lit _ => 1
  | .nil => 1
  | .ptr d => uptoBulk d + 1
  | .slice elems spare => uptoBulkAll elems + uptoBulkAll spare + 1
  | .agg parts => uptoBulkAll parts + 1
  | .iface _ d => uptoBulk d + 1
  | .map entries => uptoBulkEntries entries + 1
  | .held _ => 1
def uptoBulkAll {H : Type} : List (DataW H) → Nat
  | [] => 0
  | d :: r => uptoBulk d + uptoBulkAll r
def uptoBulkEntries {H : Type} : List (Lit × DataW H) → Nat
  | [] => 0
  | x :: r => uptoBulkEntry x + uptoBulkEntries r
def uptoBulkEntry {H : Type} : Lit × DataW H → Nat
  | (.string bytes, d) => bytes.length + uptoBulk d + 1
  | (_, d) => uptoBulk d + 1
 end
def uptoSmall : (H : Type) → List (DataW H) → Bool := fun _ ds => decide (uptoBulkAll ds ≤ 1048576)
def OpenSpec.upto (s : _root_.Go.ChangeSpec) : _root_.Go.OpenSpec := { _root_.Go.OpenSpec.ofChange s with cond := some uptoSmall }

/-- 'glacierlaw19.ChainAgrees', WHERE WHAT IT READS IS OF BULK AT MOST 1048576: true; the input reads as it did. -/
def chainAgreesUptoRow : OpenClaim := { program := "ytfchjoejdijjeaa", sum := "83ccb74fd3c325441a81ef03de7eea7c29b0412c3a67e021775e8ba7dec7b124", func := "glacier/glacierlaw19.ChainAgrees", spec := "chainAgrees", unfollowed := true, recurses := true, apart := false, narrowed := true }
def ChainAgreesUptoSaid : Prop := chainAgreesUptoRow.holds Try.pinned (OpenSpec.upto chainAgreesSpec)

/-- 'glacierlaw19.ChainLine', WHERE WHAT IT READS IS OF BULK AT MOST 1048576: true; the input reads as it did. -/
def chainLineUptoRow : OpenClaim := { program := "ytfchjoejdijjeaa", sum := "83ccb74fd3c325441a81ef03de7eea7c29b0412c3a67e021775e8ba7dec7b124", func := "glacier/glacierlaw19.ChainLine", spec := "chainLine", unfollowed := true, recurses := true, apart := false, narrowed := true }
def ChainLineUptoSaid : Prop := chainLineUptoRow.holds Try.pinned (OpenSpec.upto chainLineSpec)

/-- 'glacierlaw19.ChainFenced', WHERE WHAT IT READS IS OF BULK AT MOST 1048576: true; the input reads as it did. -/
def chainFencedUptoRow : OpenClaim := { program := "ytfchjoejdijjeaa", sum := "83ccb74fd3c325441a81ef03de7eea7c29b0412c3a67e021775e8ba7dec7b124", func := "glacier/glacierlaw19.ChainFenced", spec := "chainFenced", unfollowed := true, recurses := true, apart := false, narrowed := true }
def ChainFencedUptoSaid : Prop := chainFencedUptoRow.holds Try.pinned (OpenSpec.upto chainFencedSpec)

end Rows
end Go.Proofs.Ytfchjoejdijjeaa
