/- A region that draws its order whose last operation waits for all others: behind it the region's condition on the world need not hold. -/
import Derived.Test.YtpdbjmodgiokmaaDoorGl
namespace Go.Gl
open Go Go.RowKit
section last
variable {P : Program} {ops : Array Oper} {Q : Exit → Act → World → Prop} {S : World → Prop}

/-- As the kit's 'wpAnyH'; behind 'last' S is not asked. -/
def wpAnyL (P : Program) (ops : Array Oper) (Q : Exit → Act → World → Prop) (S : World → Prop) (last : Nat) : Nat → Array Bool → Act → World → Prop
  | 0, listed, a, w => Region.ready .any ops listed = [] ∧ Q .normal a w
  | fuel + 1, listed, a, w =>
    (Region.ready .any ops listed = [] → Q .normal a w) ∧
    ∀ i ∈ Region.ready .any ops listed, wpOp P ops Q i (fun a' w' => (i ≠ last → S w') ∧ wpAnyL P ops Q S last fuel (listed.setIfInBounds i true) a' w') a w

theorem wpAny_of_last {last : Nat} : ∀ (fuel : Nat) (listed : Array Bool) (a : Act) (w : World), wpAnyL P ops Q S last fuel listed a w → wpAny P .any ops Q fuel listed a w
  | 0, _, _, _, h => h
  | fuel + 1, _, _, _, h => ⟨h.1, fun i hi => wpOp_mono (fun a' w' h' => wpAny_of_last fuel _ a' w' h'.2) (h.2 i hi)⟩

/-- i waits for k, through others too. -/
def waitsFor (ops : Array Oper) : Nat → Nat → Nat → Bool
  | 0, _, _ => false
  | n + 1, i, k =>
    match ops[i]? with
    | none => false
    | some o => o.after.any fun e => Region.binds .any e && (decide (e.on = k) || waitsFor ops n e.on k)

/-- Who has come up, those that it waits for have too. -/
def Closed (ops : Array Oper) (listed : Array Bool) : Prop :=
  ∀ (k : Nat) (o : Oper), ops[k]? = some o → listed.getD k false = true → ∀ e ∈ o.after, Region.binds .any e = true → listed.getD e.on false = true

theorem Closed.list {listed : Array Bool} (h : Closed ops listed) {i : Nat} (hi : i ∈ Region.ready .any ops listed) : Closed ops (listed.setIfInBounds i true) := by
  intro k o hk hl e he hb
  have up : ∀ j, listed.getD j false = true → (listed.setIfInBounds i true).getD j false = true := fun j hj => by
    by_cases hij : i = j
    · subst hij
      have : i < listed.size := by
        rcases Nat.lt_or_ge i listed.size with h' | h'
        · exact h'
        · simp [Array.getElem?_eq_none h'] at hj
      simp [this]
    · rw [getD_set_ne false hij]; exact hj
  by_cases hik : i = k
  · subst hik
    obtain ⟨_, o', ho', hall⟩ := mem_ready.1 hi
    rw [hk] at ho'; cases ho'
    exact up _ (hall e he hb)
  · rw [getD_set_ne false hik] at hl
    exact up _ (h k o hk hl e he hb)

theorem waitsFor_spec {listed : Array Bool} (h : Closed ops listed) : ∀ (n i k : Nat), waitsFor ops n i k = true → (∀ o, ops[i]? = some o → ∀ e ∈ o.after, Region.binds .any e = true → listed.getD e.on false = true) → listed.getD k false = true
  | 0, _, _, hw, _ => by simp [waitsFor] at hw
  | n + 1, i, k, hw, hd => by
    unfold waitsFor at hw
    cases ho : ops[i]? with
    | none => simp [ho] at hw
    | some o =>
      simp only [ho, Array.any_eq_true', Bool.and_eq_true, Bool.or_eq_true, decide_eq_true_eq] at hw
      obtain ⟨e, he, hb, hk⟩ := hw
      have h1 := hd o ho e he hb
      rcases hk with hk | hk
      · rw [← hk]; exact h1
      · exact waitsFor_spec h n e.on k hk fun o' ho' e' he' hb' => h e.on o' ho' h1 e' he' hb'

/-- 'last' waits for all others. -/
def lastOk (ops : Array Oper) (last : Nat) : Bool := (List.range ops.size).all fun k => decide (k = last) || waitsFor ops 3 last k

theorem lastOk_spec {last : Nat} (h : lastOk ops last = true) {listed : Array Bool} (hcl : Closed ops listed) (hr : last ∈ Region.ready .any ops listed) {i : Nat} (hi : i ∈ Region.ready .any ops listed) : i = last := by
  obtain ⟨h1, o, ho, hall⟩ := mem_ready.1 hr
  obtain ⟨g1, oi, hoi, _⟩ := mem_ready.1 hi
  unfold lastOk at h
  simp only [List.all_eq_true, List.mem_range] at h
  have hlt : i < ops.size := by
    rcases Nat.lt_or_ge i ops.size with h2 | h2
    · exact h2
    · rw [Array.getElem?_eq_none h2] at hoi; cases hoi
  have h2 := h i hlt
  simp only [Bool.or_eq_true, decide_eq_true_eq] at h2
  rcases h2 with h2 | h2
  · exact h2
  · have h3 := waitsFor_spec hcl 3 last i h2 (fun o' ho' => by rw [ho] at ho'; cases ho'; exact hall)
    rcases Nat.lt_or_ge i listed.size with h' | h'
    · simp [h'] at g1 h3; rw [g1] at h3; cases h3
    · simp [Array.getElem?_eq_none h'] at h3

theorem wpAnyL_first {last i : Nat} {oi : Oper} {v : Value} (hlast : lastOk ops last = true) (hil : i ≠ last) (hi : ops[i]? = some oi) (hsel : ∀ (j : Nat) (o : Oper) cs b, ops[j]? = some o → o.op ≠ .select cs b)
    (hQ : ∀ c a w, Q (.panic c) (a.put oi.dst v) w → Q (.panic c) a w) :
    ∀ (fuel : Nat) (listed : Array Bool) (a : Act) (w : World), Closed ops listed →
      (∀ j oj, ops[j]? = some oj → j ≠ i → listed.getD j true = false → (∀ e ∈ oj.after, Region.binds .any e = true → e.on ≠ i) → oi.apart ops oj = true) →
      i ∈ Region.ready .any ops listed → YieldsIf P ops S oi v a → S w →
      wpAnyL P ops Q S last fuel (listed.setIfInBounds i true) (a.put oi.dst v) w → wpAnyL P ops Q S last (fuel + 1) listed a w := by
  intro fuel
  induction fuel with
  | zero =>
    intro listed a w _ _ hr hy hS H
    refine ⟨fun h => (by rw [h] at hr; cases hr), fun j hj => ?_⟩
    by_cases hji : j = i
    · subst hji; exact hy.wpOp hi hS ⟨fun _ => hS, H⟩
    · have := ready_mono hj hji
      rw [H.1] at this
      cases this
  | succ fuel ih =>
    intro listed a w hcl hfree hr hy hS H
    refine ⟨fun h => (by rw [h] at hr; cases hr), fun j hj => ?_⟩
    by_cases hji : j = i
    · subst hji; exact hy.wpOp hi hS ⟨fun _ => hS, H⟩
    · have hjl : j ≠ last := fun e => hil (by subst e; exact lastOk_spec hlast hcl hj hr)
      have h1 := H.2 j (ready_mono hj hji)
      obtain ⟨hjun, oj, hoj, hall⟩ := mem_ready.1 hj
      have hnot : ∀ e ∈ oj.after, Region.binds .any e = true → e.on ≠ i := fun e he hb heq => by
        have h1 := hall e he hb
        have h0 := (mem_ready.1 hr).1
        rw [heq] at h1
        rcases Nat.lt_or_ge i listed.size with h' | h'
        · simp [h'] at h0 h1; rw [h0] at h1; cases h1
        · simp [Array.getElem?_eq_none h'] at h1
      have h2 := wpOp_putIf hoj (hfree j oj hoj hji hjun hnot) (fun cs b => hsel i oi cs b hi) (fun cs b => hsel j oj cs b hoj) hQ hy h1
      have hfree' : ∀ k ok, ops[k]? = some ok → k ≠ i → (listed.setIfInBounds j true).getD k true = false →
          (∀ e ∈ ok.after, Region.binds .any e = true → e.on ≠ i) → oi.apart ops ok = true := fun k ok hk hki hun hno => by
        refine hfree k ok hk hki ?_ hno
        by_cases hjk : j = k
        · subst hjk; exact hjun
        · rw [getD_set_ne true hjk] at hun; exact hun
      refine wpOp_mono (fun a' w' h3 => ⟨h3.2.1, ih (listed.setIfInBounds j true) a' w' (hcl.list hj) hfree' (ready_mono hr (Ne.symm hji)) h3.1 (h3.2.1 hjl) ?_⟩) h2
      rw [Array.setIfInBounds_comm _ _ hji]
      exact h3.2.2

/-- What is left where 'o' is the last. -/
def lastQ (P : Program) (ops : Array Oper) (Q : Exit → Act → World → Prop) (o : Oper) : Exit → Act → World → Prop
  | .normal, a, w => if Region.wanted o (yielded ops a.tmps) then o.wp P a w (fun a' w' => Q .normal a' w') Q else Q .normal (a.put o.dst undef) w
  | e, a, w => Q e a w

theorem lastQ_normal {o : Oper} {a : Act} {w : World} : lastQ P ops Q o .normal a w = if Region.wanted o (yielded ops a.tmps) then o.wp P a w (fun a' w' => Q .normal a' w') Q else Q .normal (a.put o.dst undef) w := rfl

theorem wp_lastQ {o o' : Oper} {a : Act} {w : World} {K K' : Act → World → Prop} (h : ∀ a w, K a w → K' a w) (hh : o.wp P a w K (lastQ P ops Q o')) : o.wp P a w K' Q := by
  unfold Oper.wp at *
  generalize (execOp a.eval o).run P w = r at *
  cases r with
  | ok n w' =>
    cases n <;> simp only [Oper.upon] at hh ⊢
    case value u => exact h _ _ hh
    case skip => exact h _ _ hh
    case defer d => exact h _ _ hh
    case enter f args =>
      refine Calls.mono hh fun e w'' he => ?_
      cases e with
      | returned u => exact h _ _ he
      | panicked c => exact he
      | outgrown => exact he
    case row row args => exact Rows.mono hh fun u w'' he => h _ _ he
  | halt x w' =>
    cases x <;> simp only [Oper.upon] at hh ⊢
    case panic u => exact hh

def checkPl (ops : Array Oper) (last : Nat) : List (Nat × Bool) → Array Bool → Bool
  | [], listed => decide (Region.ready .any ops listed = [last]) && (Region.ready .any ops (listed.setIfInBounds last true)).isEmpty
  | (i, false) :: rest, listed => decide (i ≠ last) && (Region.ready .any ops listed).contains i && Region.free .any ops listed i && checkPl ops last rest (listed.setIfInBounds i true)
  | (i, true) :: rest, listed => decide (i ≠ last) && decide (Region.ready .any ops listed = [i]) && checkPl ops last rest (listed.setIfInBounds i true)

theorem wpAnyL_of_pi {l : List Oper} {last : Nat} (hlast : lastOk l.toArray last = true) (hs : Region.noSelect l.toArray = true) (hQ : ∀ c a d v w, Q (.panic c) (Act.put a d v) w → Q (.panic c) a w) : ∀ (π : List (Nat × Bool)) (listed : Array Bool) (a : Act) (w : World), Closed l.toArray listed →
    checkPl l.toArray last π listed = true → S w → wpPi P l.toArray (lastQ P l.toArray Q (nth l last)) S (arrange l π) a w → wpAnyL P l.toArray Q S last (π.length + 1) listed a w
  | [], listed, a, w, hcl, hc, hS, h => by
    simp only [checkPl, Bool.and_eq_true, decide_eq_true_eq] at hc
    refine ⟨fun h0 => (by rw [h0] at hc; cases hc.1), fun j hj => ?_⟩
    rw [hc.1] at hj
    have hji : j = last := by simpa using hj
    subst hji
    have hi : l.toArray[j]? = some (nth l j) := by
      have := ready_lt (ops := l.toArray) (listed := listed) (i := j) (by rw [hc.1]; simp)
      simpa using nth_of_lt (l := l) (by simpa using this)
    have h' : lastQ P l.toArray Q (nth l j) .normal a w := by
      unfold arrange wpPi at h; exact h
    rw [lastQ_normal] at h'
    unfold wpOp
    simp only [hi]
    split
    · rename_i hw
      rw [if_pos hw] at h'
      exact .inl (Oper.wp_mono (fun a' w' h2 => ⟨fun e => absurd rfl e, by simpa using hc.2, h2⟩) h')
    · rename_i hw
      rw [if_neg hw] at h'
      exact ⟨fun e => absurd rfl e, by simpa using hc.2, h'⟩
  | (i, false) :: rest, listed, a, w, hcl, hc, hS, h => by
    simp only [checkPl, Bool.and_eq_true, decide_eq_true_eq] at hc
    obtain ⟨v, hy, hr⟩ : ∃ v, YieldsIf P l.toArray S (nth l i) v a ∧ wpPi P l.toArray (lastQ P l.toArray Q (nth l last)) S (arrange l rest) (a.put (nth l i).dst v) w := by
      unfold arrange wpPi at h; exact h
    have hi := ready_lt (by simpa using hc.1.1.2)
    have hi' : l.toArray[i]? = some (nth l i) := by simpa using nth_of_lt (l := l) (by simpa using hi)
    exact wpAnyL_first hlast hc.1.1.1 hi' (Region.noSelect_spec hs) (fun c a w => hQ c a _ _ w) _ listed a w hcl (Region.free_spec hi' hc.1.2) (by simpa using hc.1.1.2) hy hS (wpAnyL_of_pi hlast hs hQ rest _ _ _ (hcl.list (by simpa using hc.1.1.2)) hc.2 hS hr)
  | (i, true) :: rest, listed, a, w, hcl, hc, hS, h => by
    simp only [checkPl, Bool.and_eq_true, decide_eq_true_eq] at hc
    refine ⟨fun h0 => (by rw [h0] at hc; cases hc.1.2), fun j hj => ?_⟩
    rw [hc.1.2] at hj
    have hji : j = i := by simpa using hj
    subst hji
    have hi : l.toArray[j]? = some (nth l j) := by
      have := ready_lt (ops := l.toArray) (listed := listed) (i := j) (by rw [hc.1.2]; simp)
      simpa using nth_of_lt (l := l) (by simpa using this)
    unfold arrange wpPi at h
    unfold wpOp
    simp only [hi]
    split
    · rename_i hw
      rw [if_pos hw] at h
      exact .inl (wp_lastQ (fun a' w' h' => ⟨fun _ => h'.1, wpAnyL_of_pi hlast hs hQ rest _ _ _ (hcl.list (by rw [hc.1.2]; simp)) hc.2 h'.1 h'.2⟩) h)
    · rename_i hw
      rw [if_neg hw] at h
      exact ⟨fun _ => h.1, wpAnyL_of_pi hlast hs hQ rest _ _ _ (hcl.list (by rw [hc.1.2]; simp)) hc.2 h.1 h.2⟩

theorem wp_region_last {id : Nat} {a : Act} {w : World} {l : List Oper} (S : World → Prop) (π : List (Nat × Bool)) (last : Nat) (hm : P.follows .mixedOrders = true)
    (hB : (lastOk l.toArray last && Region.noSelect l.toArray && checkPl l.toArray last π (Array.replicate l.toArray.size false) && decide (π.length + 1 = l.toArray.size)) = true)
    (hQ : ∀ c a d v w, Q (.panic c) (Act.put a d v) w → Q (.panic c) a w) (hS : S w.drew) (h : wpPi P l.toArray (lastQ P l.toArray Q (nth l last)) S (arrange l π) a w.drew) : (Code.region id l.toArray true).wp P Q a w := by
  simp only [Bool.and_eq_true, decide_eq_true_eq] at hB
  refine wp_region_any hm (wpAny_of_last (S := S) (last := last) _ _ _ _ ?_)
  rw [← hB.2]
  exact wpAnyL_of_pi hB.1.1.1 hB.1.1.2 hQ π _ _ _ (fun k o _ hl => by simp [Array.getD] at hl) (by rw [hB.2]; exact hB.1.2) hS h

theorem lastQ_act {o : Oper} {a : Act} {w : World} (hw : Region.wanted o (yielded ops a.tmps) = true)
    (h : ∀ K : Act → World → Prop, (∀ a w, Q .normal a w → K a w) → o.wp P a w K Q) : lastQ P ops Q o .normal a w := by
  rw [lastQ_normal, if_pos hw]
  exact h _ (fun _ _ h => h)
end last
end Go.Gl
