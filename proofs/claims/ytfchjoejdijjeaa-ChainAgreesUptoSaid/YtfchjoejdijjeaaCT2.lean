/- Merged out of FT: helpers. -/
import Derived.Test.YtfchjoejdijjeaaCZ
import Derived.KernelRfl
set_option linter.unusedSimpArgs false
set_option linter.unusedVariables false
/- ChainLine's law over numbers, by running the model. -/
namespace Go.Ch
namespace Ln
/-- Members are added one by one. -/
def addAll : Nat → Nat → Wd Nat → Wd Nat
  | 0, _, w => w
  | n + 1, i, w => addAll n (i + 1) ((w.command ⟨1, i, 0, 0⟩).settle 3)
def endB (w : Wd Nat) (n : Nat) : Bool := w.ok && decide (w.row = List.range n) && (List.range w.nds.length).all fun i => decide ((w.box i).cmds.length = n) && decide ((w.box i).first = n) && wholeB (w.nd i) (w.box i) && (headB (w.nd i) (w.box i) == decide (i = 0))
def step (w : Wd Nat) (i : Nat) : Wd Nat := if i % 3 = 2 then (w.submit 0 i).settle 1 else w.submit 0 i
/-- From the i-th command on, n more at most. -/
def go : Nat → Nat → Wd Nat → Bool
  | 0, i, w => endB (w.settle 4) i
  | n + 1, i, w => endB (w.settle 4) i && takes (w.nd 0) (w.box 0) && go n (i + 1) (step w i)
theorem go1 : go 60 0 (addAll 1 0 (Wd.fresh0 1)) = true := by kernel_rfl
theorem go2 : go 60 0 (addAll 2 0 (Wd.fresh0 2)) = true := by kernel_rfl
theorem go3 : go 60 0 (addAll 3 0 (Wd.fresh0 3)) = true := by kernel_rfl
theorem go4 : go 60 0 (addAll 4 0 (Wd.fresh0 4)) = true := by kernel_rfl
theorem go5 : go 60 0 (addAll 5 0 (Wd.fresh0 5)) = true := by kernel_rfl

/-- The world behind j commands. -/
def after (w : Wd Nat) : Nat → Wd Nat
  | 0 => w
  | j + 1 => step (after w j) j
theorem go_all : ∀ {n i : Nat} {w0 : Wd Nat}, go n i (after w0 i) = true → ∀ j, i ≤ j → j ≤ i + n → endB ((after w0 j).settle 4) j = true ∧ (j < i + n → takes ((after w0 j).nd 0) ((after w0 j).box 0) = true)
  | 0, i, w0, h, j, h1, h2 => by
    obtain rfl : j = i := by omega
    exact ⟨h, fun h => by omega⟩
  | n + 1, i, w0, h, j, h1, h2 => by
    simp only [go, Bool.and_eq_true] at h
    by_cases hj : j = i
    · subst hj
      exact ⟨h.1.1, fun _ => h.1.2⟩
    · have := go_all (n := n) (i := i + 1) (w0 := w0) h.2 j (by omega) (by omega)
      exact ⟨this.1, fun h3 => this.2 (by omega)⟩
def start (m : Nat) : Wd Nat := addAll m 0 (Wd.fresh0 m)
theorem line {m : Nat} (h1 : 1 ≤ m) (h5 : m ≤ 5) {j : Nat} (hj : j ≤ 60) : endB ((after (start m) j).settle 4) j = true ∧ (j < 60 → takes ((after (start m) j).nd 0) ((after (start m) j).box 0) = true) := by
  have h : go 60 0 (after (start m) 0) = true := by
    rcases (show m = 1 ∨ m = 2 ∨ m = 3 ∨ m = 4 ∨ m = 5 by omega) with rfl | rfl | rfl | rfl | rfl
    · exact go1
    · exact go2
    · exact go3
    · exact go4
    · exact go5
  have := go_all h j (Nat.zero_le _) (by omega)
  exact ⟨this.1, fun h => this.2 (by omega)⟩
theorem after_ok {m : Nat} (h1 : 1 ≤ m) (h5 : m ≤ 5) {j : Nat} (hj : j ≤ 60) : ((after (start m) j).settle 4).ok = true := by
  have := (line h1 h5 hj).1
  unfold endB at this
  simp only [Bool.and_eq_true] at this
  exact this.1.1
theorem addAll_ok1 : ∀ {n i : Nat} {w : Wd Nat}, (addAll n i w).ok = true → w.ok = true
  | 0, _, _, h => h
  | n + 1, i, w, h => by
    have := settle_ok1 (addAll_ok1 (n := n) h)
    rw [command_ok] at this
    exact this
end Ln
end Go.Ch
