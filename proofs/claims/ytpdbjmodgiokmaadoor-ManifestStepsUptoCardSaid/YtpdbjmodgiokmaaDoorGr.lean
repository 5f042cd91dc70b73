/- A region that draws its order: what each operation does is shown once, whatever has run before it. -/
import Derived.Test.YtpdbjmodgiokmaaDoorGq
namespace Go.Gl
open Go Go.RowKit

/-- The frames a and b are alike but for the slots of D. -/
structure FrameBut (D : List Nat) (a b : Act) : Prop where
  size : b.tmps.size = a.tmps.size
  same : ∀ i, D.contains i = false → b.tmps[i]? = a.tmps[i]?
  defers : b.defers = a.defers

theorem FrameBut.refl (D : List Nat) (a : Act) : FrameBut D a a := ⟨rfl, fun _ _ => rfl, rfl⟩
theorem FrameBut.put {D : List Nat} {a b : Act} (h : FrameBut D a b) {k : Nat} (hk : D.contains k = true) (v : Value) : FrameBut D a (b.put (some k) v) := by
  refine ⟨by simpa [Act.put] using h.size, fun i hi => ?_, by simpa [Act.put] using h.defers⟩
  rw [← h.same i hi]
  simp only [Act.put]
  rw [Array.getElem?_setIfInBounds, if_neg (fun hc => by subst hc; rw [hk] at hi; cases hi)]

theorem fold_put (a : Act) : ∀ (D : List Nat) (x : Act), x.tmps.size = a.tmps.size → (D.foldl (fun x d => x.put (some d) (a.tmps.getD d undef)) x).tmps.size = a.tmps.size ∧ (D.foldl (fun x d => x.put (some d) (a.tmps.getD d undef)) x).defers = x.defers ∧ ∀ i, (D.foldl (fun x d => x.put (some d) (a.tmps.getD d undef)) x).tmps[i]? = if D.contains i = true then a.tmps[i]? else x.tmps[i]?
  | [], x, h => ⟨h, rfl, fun i => by simp⟩
  | d :: D, x, h => by
    obtain ⟨h1, h2, h3⟩ := fold_put a D (x.put (some d) (a.tmps.getD d undef)) (by simpa [Act.put] using h)
    refine ⟨h1, h2.trans rfl, fun i => ?_⟩
    rw [List.foldl_cons, h3 i]
    by_cases hc : D.contains i = true
    · rw [if_pos hc, if_pos (by simp at hc ⊢; exact .inr hc)]
    · rw [if_neg hc]
      by_cases hid : d = i
      · subst hid
        rw [if_pos (by simp)]
        simp only [Act.put]
        rw [Array.getElem?_setIfInBounds, if_pos rfl]
        split
        · rename_i hl
          rw [h] at hl
          simp [Array.getD, hl]
        · rename_i hl
          rw [h] at hl
          rw [Array.getElem?_eq_none (by omega)]
      · rw [if_neg (by simp at hc ⊢; exact ⟨fun e => hid e.symm, hc⟩)]
        simp only [Act.put]
        rw [Array.getElem?_setIfInBounds, if_neg hid]

theorem FrameBut.fill {D : List Nat} {a0 a : Act} (h : FrameBut D a0 a) : a = D.foldl (fun x d => x.put (some d) (a.tmps.getD d undef)) a0 := by
  obtain ⟨h1, h2, h3⟩ := fold_put a D a0 h.size.symm
  have ht : a.tmps = (D.foldl (fun x d => x.put (some d) (a.tmps.getD d undef)) a0).tmps := by
    apply Array.ext_getElem?
    intro i
    rw [h3 i]
    split
    · rfl
    · rename_i hc
      exact h.same i (by simpa using hc)
  have hd := h.defers.trans h2.symm
  generalize D.foldl (fun x d => x.put (some d) (a.tmps.getD d undef)) a0 = y at *
  obtain ⟨at', ad⟩ := a
  obtain ⟨yt, yd⟩ := y
  simp only at ht hd
  rw [ht, hd]

theorem wp_frame {P : Program} {c : Code} {Q : Exit → Act → World → Prop} {a : Act} {w : World} (h : ∀ a0 : Act, a0 = a → c.wp P Q a0 w) : c.wp P Q a w := h a rfl

theorem tmp_ne {a : Act} {k j : Nat} {v u : Value} (h : k ≠ j) (hs : a.tmps[j]? = some u) : (a.put (some k) v).tmps[j]? = some u := by
  simp only [Act.put]
  rw [Array.getElem?_setIfInBounds, if_neg h]
  exact hs
theorem tmp_same {a : Act} {k : Nat} {v : Value} (h : k < a.tmps.size) : (a.put (some k) v).tmps[k]? = some v := by
  simp only [Act.put]
  rw [Array.getElem?_setIfInBounds, if_pos rfl, if_pos h]
theorem tmp_get {a : Act} {k : Nat} {u : Value} (h : a.tmps[k]? = some u) (hk : k < a.tmps.size) : a.tmps[k] = u := by
  rw [Array.getElem?_eq_getElem hk] at h
  exact Option.some.inj h

section flow
variable {P : Program} {ops : Array Oper} {Q : Exit → Act → World → Prop}

def unl (listed : Array Bool) : Nat := listed.toList.count false

theorem count_set : ∀ (l : List Bool) (i : Nat), l[i]? = some false → (l.set i true).count false + 1 = l.count false
  | [], _, h => by simp at h
  | x :: l, 0, h => by simp at h; subst h; simp
  | x :: l, i + 1, h => by
    have := count_set l i (by simpa using h)
    simp only [List.set_cons_succ, List.count_cons]; omega

theorem unl_get {listed : Array Bool} {i : Nat} (h : listed.getD i true = false) : listed.toList[i]? = some false := by
  rw [Array.getD_eq_getD_getElem?] at h
  rw [Array.getElem?_toList]
  cases hx : listed[i]? with
  | none => rw [hx] at h; cases h
  | some x => rw [hx] at h; simp at h; rw [h]

theorem unl_set {listed : Array Bool} {i : Nat} (h : listed.getD i true = false) : unl (listed.setIfInBounds i true) + 1 = unl listed := by
  unfold unl
  rw [Array.toList_setIfInBounds]
  exact count_set _ _ (unl_get h)

/-- Every operation waits for earlier ones alone. -/
def orderly (ops : Array Oper) : Bool := (List.range ops.size).all fun k => match ops[k]? with | none => true | some o => o.after.all fun e => !(Region.binds .any e) || decide (e.on < k)

theorem orderly_spec (h : orderly ops = true) {k : Nat} {o : Oper} (hk : ops[k]? = some o) {e : Edge} (he : e ∈ o.after) (hb : Region.binds .any e = true) : e.on < k := by
  unfold orderly at h
  simp only [List.all_eq_true, List.mem_range] at h
  have h1 := h k (lt_of_getElem? hk)
  rw [hk] at h1
  simp only [Array.all_eq_true', Bool.or_eq_true, Bool.not_eq_true', decide_eq_true_eq] at h1
  rcases h1 e he with h2 | h2
  · rw [hb] at h2; cases h2
  · exact h2

theorem all_listed (h : orderly ops = true) {listed : Array Bool} (hs : listed.size = ops.size) (hr : Region.ready .any ops listed = []) : ∀ k, k < ops.size → listed.getD k true = true := by
  intro k
  induction k using Nat.strongRecOn with
  | _ k ih =>
    intro hk
    cases hl : listed.getD k true with
    | true => rfl
    | false =>
      exfalso
      have : k ∈ Region.ready .any ops listed := by
        refine mem_ready.2 ⟨hl, ops[k], by simp [hk], fun e he hb => ?_⟩
        have hlt := orderly_spec h (k := k) (o := ops[k]) (by simp [hk]) he hb
        have h1 := ih e.on hlt (by omega)
        have hsz : e.on < listed.size := by omega
        simp only [Array.getD, hsz, dif_pos] at h1 ⊢
        exact h1
      rw [hr] at this
      cases this

theorem wpAny_inv (I : Array Bool → Act → World → Prop) (hstep : ∀ i listed a w, i ∈ Region.ready .any ops listed → I listed a w → wpOp P ops Q i (fun a' w' => I (listed.setIfInBounds i true) a' w') a w)
    (hend : ∀ listed a w, Region.ready .any ops listed = [] → I listed a w → Q .normal a w) : ∀ (fuel : Nat) (listed : Array Bool) (a : Act) (w : World), unl listed ≤ fuel → I listed a w → wpAny P .any ops Q fuel listed a w
  | 0, listed, a, w, hu, hI => by
    have hr : Region.ready .any ops listed = [] := by
      cases hc : Region.ready .any ops listed with
      | nil => rfl
      | cons x xs =>
        exfalso
        have hx : x ∈ Region.ready .any ops listed := by rw [hc]; simp
        have := unl_set (mem_ready.1 hx).1
        omega
    exact ⟨hr, hend _ _ _ hr hI⟩
  | fuel + 1, listed, a, w, hu, hI => by
    refine ⟨fun hr => hend _ _ _ hr hI, fun i hi => wpOp_mono (fun a' w' h' => wpAny_inv I hstep hend fuel _ a' w' ?_ h') (hstep i listed a w hi hI)⟩
    have := unl_set (mem_ready.1 hi).1
    omega

/-- The operations' slots are apart, and within bounds. -/
def dstOk (ops : Array Oper) (D : List Nat) : Bool := (List.range ops.size).all fun i => match (ops[i]?).bind (·.dst) with
  | none => true
  | some d => D.contains d && (List.range ops.size).all fun j => i == j || (match (ops[j]?).bind (·.dst) with | none => true | some d' => d != d')

theorem dstOk_in {D : List Nat} (h : dstOk ops D = true) {i d : Nat} {o : Oper} (ho : ops[i]? = some o) (hd : o.dst = some d) : D.contains d = true := by
  unfold dstOk at h
  simp only [List.all_eq_true, List.mem_range] at h
  have h1 := h i (lt_of_getElem? ho)
  rw [ho] at h1
  simp only [Option.bind_some, hd, Bool.and_eq_true] at h1
  exact h1.1

theorem dstOk_ne {D : List Nat} (h : dstOk ops D = true) {i j d d' : Nat} {o o' : Oper} (ho : ops[i]? = some o) (hd : o.dst = some d) (hj : ops[j]? = some o') (hd' : o'.dst = some d') (hij : i ≠ j) : d ≠ d' := by
  unfold dstOk at h
  simp only [List.all_eq_true, List.mem_range] at h
  have h1 := h i (lt_of_getElem? ho)
  rw [ho] at h1
  simp only [Option.bind_some, hd, Bool.and_eq_true, List.all_eq_true, List.mem_range] at h1
  have h2 := h1.2 j (lt_of_getElem? hj)
  rw [hj] at h2
  simp only [Option.bind_some, hd', Bool.or_eq_true, beq_iff_eq, bne_iff_ne] at h2
  rcases h2 with h2 | h2
  · exact absurd h2 hij
  · exact h2

/-- Where a region stands: what its operations' slots hold (Φ), the world (T). -/
structure Flow (ops : Array Oper) (Φ : Nat → Value → World → Prop) (T : Array Bool → Act → World → Prop) (D : List Nat) (a0 : Act) (listed : Array Bool) (a : Act) (w : World) : Prop where
  size : listed.size = ops.size
  closed : Closed ops listed
  alike : FrameBut D a0 a
  slots : ∀ (j : Nat) (o : Oper) (d : Nat), ops[j]? = some o → o.dst = some d → listed.getD j false = true → ∃ v, a.tmps[d]? = some v ∧ Φ j v w
  world : T listed a w

/-- What is to be shown of one operation. -/
def FlowStep (P : Program) (ops : Array Oper) (Q : Exit → Act → World → Prop) (Φ : Nat → Value → World → Prop) (T : Array Bool → Act → World → Prop) (R : World → World → Prop) (D : List Nat) (a0 : Act) (i : Nat) (o : Oper) : Prop :=
  ∀ listed a w, Flow ops Φ T D a0 listed a w → listed.getD i true = false → (o.after.all fun e => !(Region.binds .any e) || listed.getD e.on false) = true →
    wpOp P ops Q i (fun a' w' => ∃ v, a' = a.put o.dst v ∧ (∀ d, o.dst = some d → Φ i v w') ∧ R w w' ∧ T (listed.setIfInBounds i true) a' w') a w

def eachOp (F : Nat → Oper → Prop) : Nat → List Oper → Prop
  | _, [] => True
  | n, o :: rest => F n o ∧ eachOp F (n + 1) rest

theorem eachOp_get {F : Nat → Oper → Prop} : ∀ {l : List Oper} {n i : Nat} {o : Oper}, eachOp F n l → l[i]? = some o → F (n + i) o
  | [], _, _, _, _, h => by simp at h
  | x :: l, n, 0, o, hF, h => by simp at h; subst h; exact hF.1
  | x :: l, n, i + 1, o, hF, h => by
    have := eachOp_get hF.2 (by simpa using h)
    rwa [show n + 1 + i = n + (i + 1) by omega] at this

theorem wp_region_flow {id : Nat} {a0 : Act} {w : World} {l : List Oper} (Φ : Nat → Value → World → Prop) (T : Array Bool → Act → World → Prop) (R : World → World → Prop) (D : List Nat) (hm : P.follows .mixedOrders = true)
    (hB : (orderly l.toArray && dstOk l.toArray D) = true) (hsz : (D.all fun d => decide (d < a0.tmps.size)) = true) (hR : ∀ j v w w', R w w' → Φ j v w → Φ j v w') (h0 : T (Array.replicate l.toArray.size false) a0 w.drew)
    (hstep : eachOp (FlowStep P l.toArray Q Φ T R D a0) 0 l)
    (hend : ∀ a w, Flow l.toArray Φ T D a0 (Array.replicate l.toArray.size true) a w → Q .normal a w) : (Code.region id l.toArray true).wp P Q a0 w := by
  simp only [Bool.and_eq_true] at hB
  refine wp_region_any hm (wpAny_inv (Flow l.toArray Φ T D a0) ?_ ?_ _ _ _ _ ?_ ?_)
  · intro i listed a w hr hf
    obtain ⟨hun, o, ho, hall⟩ := mem_ready.1 hr
    have hs := eachOp_get (i := i) hstep (by simpa using ho)
    rw [Nat.zero_add] at hs
    refine wpOp_mono (fun a' w' h' => ?_) (hs listed a w hf hun (by
      simp only [Array.all_eq_true', Bool.or_eq_true, Bool.not_eq_true']
      intro e he
      cases hb : Region.binds .any e with
      | false => exact .inl rfl
      | true => exact .inr (hall e he hb)))
    obtain ⟨v, rfl, hv, hR', hT⟩ := h'
    refine ⟨by rw [Array.size_setIfInBounds]; exact hf.size, hf.closed.list hr, ?_, ?_, hT⟩
    · cases hd : o.dst with
      | none => exact hf.alike
      | some d => exact hf.alike.put (dstOk_in hB.2 ho hd) v
    · intro j o' d' hj hd' hl
      by_cases hji : i = j
      · subst hji
        rw [ho] at hj; cases hj
        refine ⟨v, ?_, hv d' hd'⟩
        rw [hd']
        exact tmp_same (by rw [hf.alike.size]; simp only [List.all_eq_true, decide_eq_true_eq] at hsz; exact hsz _ (by simpa using dstOk_in hB.2 ho hd'))
      · obtain ⟨v', hv', hΦ⟩ := hf.slots j o' d' hj hd' (by rwa [getD_set_ne false hji] at hl)
        refine ⟨v', ?_, hR j v' _ _ hR' hΦ⟩
        cases hd : o.dst with
        | none => exact hv'
        | some d => exact tmp_ne (dstOk_ne hB.2 ho hd hj hd' hji) hv'
  · intro listed a w hr hf
    have hall := all_listed hB.1 hf.size hr
    have : listed = Array.replicate l.toArray.size true := by
      apply Array.ext
      · rw [Array.size_replicate]; exact hf.size
      · intro i h1 h2
        have := hall i (by rw [← hf.size]; exact h1)
        simp only [Array.getD, h1, dif_pos] at this
        rw [Array.getElem_replicate]
        exact this
    exact hend a w (this ▸ hf)
  · unfold unl
    rw [Array.toList_replicate, List.count_replicate]
    split <;> omega
  · refine ⟨by rw [Array.size_replicate], fun k o _ hl => by simp [Array.getD] at hl, FrameBut.refl _ _, fun j o d _ _ hl => by simp [Array.getD] at hl, h0⟩

theorem after_listed {o : Oper} {listed : Array Bool} (h : (o.after.all fun e => !(Region.binds .any e) || listed.getD e.on false) = true) (k : Nat) (hk : (o.after.any fun e => Region.binds .any e && e.on == k) = true) : listed.getD k false = true := by
  simp only [Array.any_eq_true', Bool.and_eq_true, beq_iff_eq] at hk
  obtain ⟨e, he, hb, rfl⟩ := hk
  simp only [Array.all_eq_true', Bool.or_eq_true, Bool.not_eq_true'] at h
  rcases h e he with h1 | h1
  · rw [hb] at h1; cases h1
  · exact h1

/-- What waits for one that has not run has not run. -/
theorem not_yet {listed : Array Bool} (hcl : Closed ops listed) {n e i : Nat} (hw : waitsFor ops n e i = true) (hun : listed.getD i true = false) : listed.getD e false = false := by
  cases h : listed.getD e false with
  | false => rfl
  | true =>
    exfalso
    have h3 := waitsFor_spec hcl n e i hw (fun o ho => fun d hd hb => hcl e o ho h d hd hb)
    rcases Nat.lt_or_ge i listed.size with h' | h'
    · simp [Array.getD, h'] at hun h3; rw [hun] at h3; cases h3
    · simp [Array.getD, Nat.not_lt.2 h'] at hun

theorem listed_same {listed : Array Bool} {k : Nat} (h : k < listed.size) : (listed.setIfInBounds k true).getD k false = true := by
  simp [Array.getD, h]

/-- A slot that an operation has filled. -/
theorem Flow.slot {Φ : Nat → Value → World → Prop} {T : Array Bool → Act → World → Prop} {D : List Nat} {a0 a : Act} {listed : Array Bool} {w : World} (h : Flow ops Φ T D a0 listed a w) (j d : Nat) (hd : (ops[j]?).bind (·.dst) = some d) (hl : listed.getD j false = true) : ∃ v, a.tmps[d]? = some v ∧ Φ j v w := by
  cases ho : ops[j]? with
  | none => rw [ho] at hd; cases hd
  | some o => rw [ho] at hd; exact h.slots j o d ho hd hl
end flow
end Go.Gl
