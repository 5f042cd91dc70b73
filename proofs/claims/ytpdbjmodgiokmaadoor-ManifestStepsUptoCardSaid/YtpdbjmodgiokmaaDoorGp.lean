/- A region that draws its order, behind its quiet operations: whichever operation comes up next. -/
import Derived.Test.YtpdbjmodgiokmaaDoorGm
namespace Go.Gl
open Go Go.RowKit
section part
variable {P : Program} {ops : Array Oper} {Q : Exit → Act → World → Prop} {S : World → Prop}

/-- What is left of a region behind some quiet operations. -/
def restQ (P : Program) (ops : Array Oper) (Q : Exit → Act → World → Prop) (S : World → Prop) (fuel : Nat) (listed : Array Bool) : Exit → Act → World → Prop
  | .normal, a, w => wpAnyH P .any ops Q S fuel listed a w
  | e, a, w => Q e a w

def checkQt (ops : Array Oper) (goal : Array Bool) : List (Nat × Bool) → Array Bool → Bool
  | [], listed => listed == goal
  | (_, true) :: _, _ => false
  | (i, false) :: rest, listed => (Region.ready .any ops listed).contains i && Region.free .any ops listed i && checkQt ops goal rest (listed.setIfInBounds i true)

theorem wpAnyH_of_part {l : List Oper} {fuel : Nat} {goal : Array Bool} (hs : Region.noSelect l.toArray = true) (hQ : ∀ c a d v w, Q (.panic c) (Act.put a d v) w → Q (.panic c) a w) : ∀ (π : List (Nat × Bool)) (listed : Array Bool) (a : Act) (w : World),
    checkQt l.toArray goal π listed = true → S w → wpPi P l.toArray (restQ P l.toArray Q S fuel goal) S (arrange l π) a w → wpAnyH P .any l.toArray Q S (π.length + fuel) listed a w
  | [], listed, a, w, hc, hS, h => by
    simp only [checkQt, beq_iff_eq] at hc
    unfold arrange wpPi at h
    rw [List.length_nil, Nat.zero_add, hc]
    exact h
  | (i, true) :: rest, listed, a, w, hc, hS, h => by simp [checkQt] at hc
  | (i, false) :: rest, listed, a, w, hc, hS, h => by
    simp only [checkQt, Bool.and_eq_true] at hc
    unfold arrange wpPi at h
    obtain ⟨v, hy, hr⟩ := h
    have hi := ready_lt (by simpa using hc.1.1)
    have := wpAnyH_take (fuel := rest.length + fuel) (by simpa using nth_of_lt (l := l) (by simpa using hi)) hs hc.1.2 hc.1.1 (fun c a w => hQ c a _ _ w) hy hS (wpAnyH_of_part hs hQ rest _ _ _ hc.2 hS hr)
    rw [List.length_cons, show rest.length + 1 + fuel = rest.length + fuel + 1 by omega]
    exact this

theorem wp_region_part {id : Nat} {a : Act} {w : World} {l : List Oper} (S : World → Prop) (π : List (Nat × Bool)) (fuel : Nat) (goal : Array Bool) (hm : P.follows .mixedOrders = true)
    (hB : (Region.noSelect l.toArray && checkQt l.toArray goal π (Array.replicate l.toArray.size false) && decide (π.length + fuel = l.toArray.size)) = true)
    (hQ : ∀ c a d v w, Q (.panic c) (Act.put a d v) w → Q (.panic c) a w) (hS : S w.drew) (h : wpPi P l.toArray (restQ P l.toArray Q S fuel goal) S (arrange l π) a w.drew) : (Code.region id l.toArray true).wp P Q a w := by
  simp only [Bool.and_eq_true, decide_eq_true_eq] at hB
  refine wp_region_held (S := S) hm ?_
  rw [← hB.2]
  exact wpAnyH_of_part hB.1.1 hQ π _ _ _ (by rw [hB.2]; exact hB.1.2) hS h

theorem wpOp_run {i : Nat} {o : Oper} {a : Act} {w w' : World} {v : Value} {K : Act → World → Prop} (hi : ops[i]? = some o) (hw : Region.wanted o (yielded ops a.tmps) = true) (hr : (execOp a.eval o).run P w = .ok (.value v) w') (h : K (a.put o.dst v) w') : wpOp P ops Q i K a w := by
  unfold wpOp
  simp only [hi, hw, if_true]
  refine .inl ?_
  unfold Oper.wp
  rw [hr]
  exact h

theorem wpOp_skip {i : Nat} {o : Oper} {a : Act} {w w' : World} {K : Act → World → Prop} (hi : ops[i]? = some o) (hw : Region.wanted o (yielded ops a.tmps) = true) (hr : (execOp a.eval o).run P w = .ok .skip w') (h : K (a.put o.dst undef) w') : wpOp P ops Q i K a w := by
  unfold wpOp
  simp only [hi, hw, if_true]
  refine .inl ?_
  unfold Oper.wp
  rw [hr]
  exact h

theorem wpOp_call {i : Nat} {o : Oper} {a : Act} {w : World} {f : FuncId} {args : Array Value} {R : Ending → World → Prop} {K : Act → World → Prop} (hi : ops[i]? = some o) (hw : Region.wanted o (yielded ops a.tmps) = true) (hr : (execOp a.eval o).run P w = .ok (.enter f args) w) (hc : Calls P f args w R)
    (h : ∀ e w', R e w' → ∃ v, e = .returned v ∧ K (a.put o.dst v) w') : wpOp P ops Q i K a w := by
  unfold wpOp
  simp only [hi, hw, if_true]
  refine .inl ?_
  unfold Oper.wp
  rw [hr]
  refine hc.mono fun e w' he => ?_
  obtain ⟨v, rfl, h'⟩ := h e w' he
  exact h'
end part
end Go.Gl
