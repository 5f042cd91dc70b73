/- A region that draws its order whose last operations (a set) wait for all others: behind them the region's condition on the world need not hold. -/
import Derived.Test.YtpdbjmodgiokmaaDoorGp
namespace Go.Gl
open Go Go.RowKit
section exempt
variable {P : Program} {ops : Array Oper} {Q : Exit → Act → World → Prop} {S : World → Prop}

/-- As the kit's 'wpAnyH'; behind the operations of 'ex' S is not asked. -/
def wpAnyX (P : Program) (ops : Array Oper) (Q : Exit → Act → World → Prop) (S : World → Prop) (ex : List Nat) : Nat → Array Bool → Act → World → Prop
  | 0, listed, a, w => Region.ready .any ops listed = [] ∧ Q .normal a w
  | fuel + 1, listed, a, w =>
    (Region.ready .any ops listed = [] → Q .normal a w) ∧
    ∀ i ∈ Region.ready .any ops listed, wpOp P ops Q i (fun a' w' => (ex.contains i = false → S w') ∧ wpAnyX P ops Q S ex fuel (listed.setIfInBounds i true) a' w') a w

theorem wpAny_of_X {ex : List Nat} : ∀ (fuel : Nat) (listed : Array Bool) (a : Act) (w : World), wpAnyX P ops Q S ex fuel listed a w → wpAny P .any ops Q fuel listed a w
  | 0, _, _, _, h => h
  | fuel + 1, _, _, _, h => ⟨h.1, fun i hi => wpOp_mono (fun a' w' h' => wpAny_of_X fuel _ a' w' h'.2) (h.2 i hi)⟩

/-- Those of 'ex' wait for all others. -/
def exOk (ops : Array Oper) (ex : List Nat) : Bool := ex.all fun e => (List.range ops.size).all fun k => ex.contains k || waitsFor ops 8 e k

theorem exOk_spec {ex : List Nat} (h : exOk ops ex = true) {listed : Array Bool} (hcl : Closed ops listed) {e : Nat} (he : ex.contains e = true) (hr : e ∈ Region.ready .any ops listed) {i : Nat} (hi : i ∈ Region.ready .any ops listed) : ex.contains i = true := by
  obtain ⟨h1, o, ho, hall⟩ := mem_ready.1 hr
  obtain ⟨g1, oi, hoi, _⟩ := mem_ready.1 hi
  unfold exOk at h
  simp only [List.all_eq_true, List.mem_range] at h
  have hlt : i < ops.size := by
    rcases Nat.lt_or_ge i ops.size with h2 | h2
    · exact h2
    · rw [Array.getElem?_eq_none h2] at hoi; cases hoi
  have h2 := h e (by simpa using he) i hlt
  simp only [Bool.or_eq_true] at h2
  rcases h2 with h2 | h2
  · exact h2
  · exfalso
    have h3 := waitsFor_spec hcl 8 e i h2 (fun o' ho' => by rw [ho] at ho'; cases ho'; exact hall)
    rcases Nat.lt_or_ge i listed.size with h' | h'
    · simp [h'] at g1 h3; rw [g1] at h3; cases h3
    · simp [Array.getElem?_eq_none h'] at h3

theorem wpAnyX_first {ex : List Nat} {i : Nat} {oi : Oper} {v : Value} (hex : exOk ops ex = true) (hil : ex.contains i = false) (hi : ops[i]? = some oi) (hsel : ∀ (j : Nat) (o : Oper) cs b, ops[j]? = some o → o.op ≠ .select cs b)
    (hQ : ∀ c a w, Q (.panic c) (a.put oi.dst v) w → Q (.panic c) a w) :
    ∀ (fuel : Nat) (listed : Array Bool) (a : Act) (w : World), Closed ops listed →
      (∀ j oj, ops[j]? = some oj → j ≠ i → listed.getD j true = false → (∀ e ∈ oj.after, Region.binds .any e = true → e.on ≠ i) → oi.apart ops oj = true) →
      i ∈ Region.ready .any ops listed → YieldsIf P ops S oi v a → S w →
      wpAnyX P ops Q S ex fuel (listed.setIfInBounds i true) (a.put oi.dst v) w → wpAnyX P ops Q S ex (fuel + 1) listed a w := by
  intro fuel
  induction fuel with
  | zero =>
    intro listed a w _ _ hr hy hS H
    refine ⟨fun h => (by rw [h] at hr; cases hr), fun j hj => ?_⟩
    by_cases hji : j = i
    · subst hji; exact hy.wpOp hi hS ⟨fun _ => hS, H⟩
    · have := ready_mono hj hji
      rw [H.1] at this
      cases this
  | succ fuel ih =>
    intro listed a w hcl hfree hr hy hS H
    refine ⟨fun h => (by rw [h] at hr; cases hr), fun j hj => ?_⟩
    by_cases hji : j = i
    · subst hji; exact hy.wpOp hi hS ⟨fun _ => hS, H⟩
    · have hjl : ex.contains j = false := by
        cases hc : ex.contains j with
        | false => rfl
        | true => rw [exOk_spec hex hcl hc hj hr] at hil; cases hil
      have h1 := H.2 j (ready_mono hj hji)
      obtain ⟨hjun, oj, hoj, hall⟩ := mem_ready.1 hj
      have hnot : ∀ e ∈ oj.after, Region.binds .any e = true → e.on ≠ i := fun e he hb heq => by
        have h1 := hall e he hb
        have h0 := (mem_ready.1 hr).1
        rw [heq] at h1
        rcases Nat.lt_or_ge i listed.size with h' | h'
        · simp [h'] at h0 h1; rw [h0] at h1; cases h1
        · simp [Array.getElem?_eq_none h'] at h1
      have h2 := wpOp_putIf hoj (hfree j oj hoj hji hjun hnot) (fun cs b => hsel i oi cs b hi) (fun cs b => hsel j oj cs b hoj) hQ hy h1
      have hfree' : ∀ k ok, ops[k]? = some ok → k ≠ i → (listed.setIfInBounds j true).getD k true = false →
          (∀ e ∈ ok.after, Region.binds .any e = true → e.on ≠ i) → oi.apart ops ok = true := fun k ok hk hki hun hno => by
        refine hfree k ok hk hki ?_ hno
        by_cases hjk : j = k
        · subst hjk; exact hjun
        · rw [getD_set_ne true hjk] at hun; exact hun
      refine wpOp_mono (fun a' w' h3 => ⟨h3.2.1, ih (listed.setIfInBounds j true) a' w' (hcl.list hj) hfree' (ready_mono hr (Ne.symm hji)) h3.1 (h3.2.1 hjl) ?_⟩) h2
      rw [Array.setIfInBounds_comm _ _ hji]
      exact h3.2.2

/-- What is left of a region behind some quiet operations. -/
def restX (P : Program) (ops : Array Oper) (Q : Exit → Act → World → Prop) (S : World → Prop) (ex : List Nat) (fuel : Nat) (listed : Array Bool) : Exit → Act → World → Prop
  | .normal, a, w => wpAnyX P ops Q S ex fuel listed a w
  | e, a, w => Q e a w

def checkX (ops : Array Oper) (ex : List Nat) (goal : Array Bool) : List (Nat × Bool) → Array Bool → Bool
  | [], listed => listed == goal
  | (_, true) :: _, _ => false
  | (i, false) :: rest, listed => !ex.contains i && (Region.ready .any ops listed).contains i && Region.free .any ops listed i && checkX ops ex goal rest (listed.setIfInBounds i true)

theorem wpAnyX_of_part {l : List Oper} {ex : List Nat} {fuel : Nat} {goal : Array Bool} (hex : exOk l.toArray ex = true) (hs : Region.noSelect l.toArray = true) (hQ : ∀ c a d v w, Q (.panic c) (Act.put a d v) w → Q (.panic c) a w) : ∀ (π : List (Nat × Bool)) (listed : Array Bool) (a : Act) (w : World), Closed l.toArray listed →
    checkX l.toArray ex goal π listed = true → S w → wpPi P l.toArray (restX P l.toArray Q S ex fuel goal) S (arrange l π) a w → wpAnyX P l.toArray Q S ex (π.length + fuel) listed a w
  | [], listed, a, w, hcl, hc, hS, h => by
    simp only [checkX, beq_iff_eq] at hc
    unfold arrange wpPi at h
    rw [List.length_nil, Nat.zero_add, hc]
    exact h
  | (i, true) :: rest, listed, a, w, hcl, hc, hS, h => by simp [checkX] at hc
  | (i, false) :: rest, listed, a, w, hcl, hc, hS, h => by
    simp only [checkX, Bool.and_eq_true, Bool.not_eq_true'] at hc
    unfold arrange wpPi at h
    obtain ⟨v, hy, hr⟩ := h
    have hmem : i ∈ Region.ready .any l.toArray listed := by simpa using hc.1.1.2
    have hi := ready_lt hmem
    have hi' : l.toArray[i]? = some (nth l i) := by simpa using nth_of_lt (l := l) (by simpa using hi)
    have := wpAnyX_first hex hc.1.1.1 hi' (Region.noSelect_spec hs) (fun c a w => hQ c a _ _ w) (rest.length + fuel) listed a w hcl (Region.free_spec hi' hc.1.2) hmem hy hS (wpAnyX_of_part hex hs hQ rest _ _ _ (hcl.list hmem) hc.2 hS hr)
    rw [List.length_cons, show rest.length + 1 + fuel = rest.length + fuel + 1 by omega]
    exact this

theorem wp_region_X {id : Nat} {a : Act} {w : World} {l : List Oper} (S : World → Prop) (ex : List Nat) (π : List (Nat × Bool)) (fuel : Nat) (goal : Array Bool) (hm : P.follows .mixedOrders = true)
    (hB : (exOk l.toArray ex && Region.noSelect l.toArray && checkX l.toArray ex goal π (Array.replicate l.toArray.size false) && decide (π.length + fuel = l.toArray.size)) = true)
    (hQ : ∀ c a d v w, Q (.panic c) (Act.put a d v) w → Q (.panic c) a w) (hS : S w.drew) (h : wpPi P l.toArray (restX P l.toArray Q S ex fuel goal) S (arrange l π) a w.drew) : (Code.region id l.toArray true).wp P Q a w := by
  simp only [Bool.and_eq_true, decide_eq_true_eq] at hB
  refine wp_region_any hm (wpAny_of_X (S := S) (ex := ex) _ _ _ _ ?_)
  rw [← hB.2]
  exact wpAnyX_of_part hB.1.1.1 hB.1.1.2 hQ π _ _ _ (fun k o _ hl => by simp [Array.getD] at hl) (by rw [hB.2]; exact hB.1.2) hS h

def closedB (ops : Array Oper) (listed : Array Bool) : Bool := (List.range ops.size).all fun k => !(listed.getD k false) || match ops[k]? with | none => true | some o => o.after.all fun e => !(Region.binds .any e) || listed.getD e.on false

theorem closed_of {listed : Array Bool} (h : closedB ops listed = true) : Closed ops listed := by
  intro k o hk hl e he hb
  unfold closedB at h
  simp only [List.all_eq_true, List.mem_range] at h
  have hlt : k < ops.size := by
    rcases Nat.lt_or_ge k ops.size with h2 | h2
    · exact h2
    · rw [Array.getElem?_eq_none h2] at hk; cases hk
  have h1 := h k hlt
  rw [hl, hk] at h1
  simp only [Bool.not_true, Bool.false_or, Array.all_eq_true', Bool.or_eq_true, Bool.not_eq_true'] at h1
  rcases h1 e he with h2 | h2
  · rw [hb] at h2; cases h2
  · exact h2

/-- A quiet operation in the midst. -/
theorem wpAnyX_take {ex : List Nat} {i : Nat} {oi : Oper} {v : Value} {fuel : Nat} {listed : Array Bool} {a : Act} {w : World} (hi : ops[i]? = some oi)
    (hB : (exOk ops ex && !ex.contains i && Region.noSelect ops && closedB ops listed && Region.free .any ops listed i && (Region.ready .any ops listed).contains i) = true)
    (hQ : ∀ c a w, Q (.panic c) (a.put oi.dst v) w → Q (.panic c) a w) (hy : YieldsIf P ops S oi v a) (hS : S w)
    (h : wpAnyX P ops Q S ex fuel (listed.setIfInBounds i true) (a.put oi.dst v) w) : wpAnyX P ops Q S ex (fuel + 1) listed a w := by
  simp only [Bool.and_eq_true, Bool.not_eq_true'] at hB
  exact wpAnyX_first hB.1.1.1.1.1 hB.1.1.1.1.2 hi (Region.noSelect_spec hB.1.1.1.2) hQ fuel listed a w (closed_of hB.1.1.2) (Region.free_spec hi hB.1.2) (by simpa using hB.2) hy hS h

/-- Whichever of those that may come up comes up. -/
theorem wpAnyX_all {ex : List Nat} {rs : List Nat} {fuel : Nat} {listed : Array Bool} {a : Act} {w : World} (hr : Region.ready .any ops listed = rs) (hne : rs ≠ [])
    (h : ∀ i ∈ rs, wpOp P ops Q i (fun a' w' => (ex.contains i = false → S w') ∧ wpAnyX P ops Q S ex fuel (listed.setIfInBounds i true) a' w') a w) : wpAnyX P ops Q S ex (fuel + 1) listed a w :=
  ⟨fun h0 => absurd (hr ▸ h0) hne, hr ▸ h⟩

theorem wpAnyX_done {ex : List Nat} {listed : Array Bool} {a : Act} {w : World} (hr : Region.ready .any ops listed = []) (h : Q .normal a w) : ∀ fuel, wpAnyX P ops Q S ex fuel listed a w
  | 0 => ⟨hr, h⟩
  | _ + 1 => ⟨fun _ => h, by rw [hr]; simp⟩

theorem wpOp_act {i : Nat} {o : Oper} {a : Act} {w : World} {K : Act → World → Prop} (hi : ops[i]? = some o) (hw : Region.wanted o (yielded ops a.tmps) = true) (h : ∀ K' : Act → World → Prop, (∀ a w, K a w → K' a w) → o.wp P a w K' Q) : wpOp P ops Q i K a w := by
  unfold wpOp
  simp only [hi, hw, if_true]
  exact .inl (h _ (fun _ _ h => h))
end exempt
end Go.Gl
