/- Merged out of HA, HB, HC, HD, HE, HF, HG, HH, HI: helpers. -/
import Derived.Test.YtfchjoejdijjeaaCD
set_option linter.unusedSimpArgs false
set_option linter.unusedVariables false
/- Agreement, the abstract part: the logs of the members at the epochs; what one change of a log keeps. -/
namespace Go.Ch.Agr

abbrev Id := Nat × Nat
def Lt (l : List Id) (a b : Id) : Prop := ∃ p q : Nat, p < q ∧ l[p]? = some a ∧ l[q]? = some b
def Le (l : List Id) (a b : Id) : Prop := ∃ p q : Nat, p ≤ q ∧ l[p]? = some a ∧ l[q]? = some b

/-- Nodes, their disks, the epochs' members, what each member's log was, states that were sent. -/
structure St (C : Type) where
  E : Nat
  M : Nat → List Id
  FF : Nat → Id → Prop
  F : Nat → Id → Prop
  bir : Nat → Nat
  ep : Nat → Nat
  wh : Nat → Bool
  lg : Nat → List C
  U : Nat → Id → Option (List C)
  Say : Nat → Id → Id → List C → Prop

def One (l : List Id) : Prop := ∀ (p q : Nat) (a b : Id), l[p]? = some a → l[q]? = some b → a.1 = b.1 → p = q

variable {C : Type}
def St.id (A : St C) (i : Nat) : Id := (i, A.bir i)
def St.gone (A : St C) (e : Nat) (x : Id) : Prop := x.2 < A.bir x.1 ∨ (x.2 = A.bir x.1 ∧ e < A.ep x.1)

structure AncO (A : St C) (e : Nat) (z : Id) (S : List C) (org : Nat → Id) : Prop where
  here : org e = z
  mem : ∀ k < e, A.M k ≠ [] → org k ∈ A.M k
  gone : ∀ k < e, A.M k ≠ [] → A.gone k (org k)
  has : ∀ k < e, A.M k ≠ [] → ∀ i l, Le (A.M k) (org k) i → A.U k i = some l → l <+: S
  lead : ∀ a b, a < b → b ≤ e → (∀ k, a ≤ k → k ≤ b → org b ∈ A.M k) → Le (A.M a) (org a) (org b)
def Anc (A : St C) (e : Nat) (z : Id) (S : List C) : Prop := ∃ org, AncO A e z S org

/-- What of epochs and flags holds whatever the logs are. -/
structure Frm (A : St C) : Prop where
  one : ∀ e, One (A.M e)
  old : ∀ e a b, Lt (A.M (e + 1)) a b → b ∈ A.M e → Lt (A.M e) a b
  emp : ∀ e f, f ≤ e → e ≤ A.E → A.M e = [] → A.M f = []
  zero : A.M 0 = []
  ends : ∀ e, A.E < e → A.M e = []
  born : ∀ e, ∀ x ∈ A.M e, x.2 ≤ A.bir x.1
  ffF : ∀ e x, A.FF e x → A.F e x
  fm : ∀ e x, A.F e x → x ∈ A.M e
  late : ∀ e i, A.F e (A.id i) → e ≤ A.ep i ∨ A.FF e (A.id i)
  back : ∀ e x, A.FF (e + 1) x → A.F e x ∨ A.M e = []
  epE : ∀ i, A.ep i ≤ A.E
  good : ∀ i, A.F (A.ep i) (A.id i) → A.wh i = true

structure Good (A : St C) : Prop extends Frm A where
  tie : ∀ i, A.U (A.ep i) (A.id i) = if A.wh i = true then some (A.lg i) else none
  fut : ∀ i e, A.ep i < e → A.U e (A.id i) = none
  mem : ∀ e x l, A.U e x = some l → x ∈ A.M e
  bare : ∀ i, A.M (A.ep i) = [] → A.lg i = []
  within : ∀ e a b la lb, Lt (A.M e) a b → A.U e a = some la → A.U e b = some lb → lb <+: la
  anc : ∀ e z S, A.U e z = some S → Anc A e z S
  skip : ∀ i e, A.ep i < e → A.FF e (A.id i) → ∀ j l, Lt (A.M e) (A.id i) j → A.U e j = some l → l <+: A.lg i
  sayU : ∀ e p z S, A.Say e p z S → ∃ a, A.U e p = some a ∧ S <+: a
  sayL : ∀ e p z S, A.Say e p z S → Lt (A.M e) p z
  sayA : ∀ e p z S, A.Say e p z S → Anc A e p S
  sayB : ∀ e p z S, A.Say e p z S → A.U e z = none → ∀ j l, Lt (A.M e) z j → A.U e j = some l → l <+: S

theorem Lt.le {l : List Id} {a b : Id} (h : Lt l a b) : Le l a b := by
  obtain ⟨p, q, h1, h2, h3⟩ := h; exact ⟨p, q, by omega, h2, h3⟩
theorem Lt.mem1 {l : List Id} {a b : Id} (h : Lt l a b) : a ∈ l := by
  obtain ⟨p, q, h1, h2, h3⟩ := h; exact List.mem_of_getElem? h2
theorem Lt.mem2 {l : List Id} {a b : Id} (h : Lt l a b) : b ∈ l := by
  obtain ⟨p, q, h1, h2, h3⟩ := h; exact List.mem_of_getElem? h3
theorem Le.refl {l : List Id} {a : Id} (h : a ∈ l) : Le l a a := by
  obtain ⟨p, hp⟩ := List.mem_iff_getElem?.mp h; exact ⟨p, p, by omega, hp, hp⟩
theorem Le.mem2 {l : List Id} {a b : Id} (h : Le l a b) : b ∈ l := by
  obtain ⟨p, q, h1, h2, h3⟩ := h; exact List.mem_of_getElem? h3
theorem Le.split {l : List Id} {a b : Id} (h : Le l a b) : a = b ∨ Lt l a b := by
  obtain ⟨p, q, h1, h2, h3⟩ := h
  rcases Nat.lt_or_ge p q with h | h
  · exact .inr ⟨p, q, h, h2, h3⟩
  · have : p = q := by omega
    subst this; rw [h2] at h3; exact .inl (Option.some.inj h3)
theorem Le.last {l : List Id} {a c : Id} (h0 : l[l.length - 1]? = some c) (h : a ∈ l) : Le l a c := by
  obtain ⟨p, hp⟩ := List.mem_iff_getElem?.mp h
  have := (List.getElem?_eq_some_iff.mp hp).1
  exact ⟨p, l.length - 1, by omega, hp, h0⟩
section
variable {l : List Id} (ho : One l) {a b c : Id}
include ho
theorem One.same (ha : a ∈ l) (hb : b ∈ l) (h : a.1 = b.1) : a = b := by
  obtain ⟨p, hp⟩ := List.mem_iff_getElem?.mp ha; obtain ⟨q, hq⟩ := List.mem_iff_getElem?.mp hb
  have := ho p q a b hp hq h; subst this; rw [hp] at hq; exact Option.some.inj hq
theorem One.ne (h : Lt l a b) : a ≠ b := by
  obtain ⟨p, q, h1, h2, h3⟩ := h; rintro rfl; have := ho p q a a h2 h3 rfl; omega
theorem One.ltle (h : Lt l a b) (k : Le l b c) : Lt l a c := by
  obtain ⟨p, q, h1, h2, h3⟩ := h; obtain ⟨r, s, k1, k2, k3⟩ := k
  have := ho q r b b h3 k2 rfl; exact ⟨p, s, by omega, h2, k3⟩
theorem One.lelt (h : Le l a b) (k : Lt l b c) : Lt l a c := by
  obtain ⟨p, q, h1, h2, h3⟩ := h; obtain ⟨r, s, k1, k2, k3⟩ := k
  have := ho q r b b h3 k2 rfl; exact ⟨p, s, by omega, h2, k3⟩
theorem One.lele (h : Le l a b) (k : Le l b c) : Le l a c := by
  obtain ⟨p, q, h1, h2, h3⟩ := h; obtain ⟨r, s, k1, k2, k3⟩ := k
  have := ho q r b b h3 k2 rfl; exact ⟨p, s, by omega, h2, k3⟩
/-- The one right ahead of x: whoever is ahead of x is not behind it. -/
theorem One.pred {i : Nat} (hb : l[i]? = some b) (hc : l[i + 1]? = some c) (h : Lt l a c) : Le l a b := by
  obtain ⟨p, q, h1, h2, h3⟩ := h
  have := ho q (i + 1) c c h3 hc rfl; exact ⟨p, i, by omega, h2, hb⟩
theorem One.first (h0 : l[0]? = some c) (h : Lt l a c) : False := by
  obtain ⟨p, q, h1, h2, h3⟩ := h
  have := ho q 0 c c h3 h0 rfl; omega
end

/-- Whoever is ahead of one that stayed was there, and ahead. -/
theorem Frm.elder {A : St C} (h : Frm A) {a b : Id} {e : Nat} : ∀ {e' : Nat}, e ≤ e' → Lt (A.M e') a b → (∀ k, e ≤ k → k ≤ e' → b ∈ A.M k) → ∀ k, e ≤ k → k ≤ e' → Lt (A.M k) a b
  | 0, _, hl, _, k, _, k2 => by have : k = 0 := by omega
                                subst this; exact hl
  | e' + 1, he, hl, hm, k, k1, k2 => by
    rcases Nat.lt_or_ge k (e' + 1) with h1 | h1
    · have hb := hm e' (by omega) (by omega)
      exact Frm.elder h (e' := e') (by omega) (h.old e' a b hl hb) (fun k a b => hm k a (by omega)) k k1 (by omega)
    · have : k = e' + 1 := by omega
      subst this; exact hl

/-- The change of one log. -/
def St.set (A : St C) (i e : Nat) (l : List C) : St C :=
  { A with ep := fun j => if j = i then e else A.ep j
           wh := fun j => if j = i then true else A.wh j
           lg := fun j => if j = i then l else A.lg j
           U := fun k x => if k = e ∧ x = A.id i then some l else A.U k x }

theorem AncO.step {A A' : St C} {e : Nat} {z : Id} {S S' : List C} {org : Nat → Id} (h : AncO A e z S org) (hM : ∀ k, k ≤ e → A'.M k = A.M k)
    (hg : ∀ k, ∀ x ∈ A.M k, A.gone k x → A'.gone k x) (hU : ∀ k < e, ∀ i l, Le (A.M k) (org k) i → A'.U k i = some l → l <+: S') : AncO A' e z S' org where
  here := h.here
  mem k hk hn := by rw [hM k (by omega)] at hn ⊢; exact h.mem k hk hn
  gone k hk hn := by rw [hM k (by omega)] at hn; exact hg k _ (h.mem k hk hn) (h.gone k hk hn)
  has k hk hn i l hl hu := by rw [hM k (by omega)] at hl; exact hU k hk i l hl hu
  lead a b hab hb hc := by
    rw [hM a (by omega)]; refine h.lead a b hab hb fun k k1 k2 => ?_
    have := hc k k1 k2; rwa [hM k (by omega)] at this

section
variable {A : St C} {i e : Nat} {l : List C}
theorem St.set_id (j : Nat) : (A.set i e l).id j = A.id j := rfl
theorem St.set_gone (he : A.ep i ≤ e) {k : Nat} {x : Id} (h : A.gone k x) : (A.set i e l).gone k x := by
  rcases h with h | h
  · exact .inl h
  · refine .inr ⟨h.1, ?_⟩
    show k < if x.1 = i then e else A.ep x.1
    by_cases hx : x.1 = i
    · rw [if_pos hx]; rw [hx] at h; omega
    · rw [if_neg hx]; exact h.2

theorem Good.set (h : Good A) (he : A.ep i ≤ e) (hm : A.id i ∈ A.M e)
    (n1 : ∀ k z S org, AncO A k z S org → e < k → A.gone e (org e) → Le (A.M e) (org e) (A.id i) → l <+: S)
    (n2 : ∀ y ly, Lt (A.M e) y (A.id i) → A.U e y = some ly → l <+: ly)
    (n3 : ∀ j, A.ep j < e → A.FF e (A.id j) → Lt (A.M e) (A.id j) (A.id i) → l <+: A.lg j)
    (n4 : ∀ p z S, A.Say e p z S → A.U e z = none → z ≠ A.id i → Lt (A.M e) z (A.id i) → l <+: S)
    (u1 : ∀ y ly, Lt (A.M e) (A.id i) y → A.U e y = some ly → ly <+: l)
    (u2 : Anc (A.set i e l) e (A.id i) l)
    (u3 : ∀ k, e < k → A.FF k (A.id i) → ∀ j lj, Lt (A.M k) (A.id i) j → A.U k j = some lj → lj <+: l)
    (u4 : ∀ a, A.U e (A.id i) = some a → a <+: l) : Good (A.set i e l) := by
  have hne : A.M e ≠ [] := by intro h0; rw [h0] at hm; cases hm
  have hU : ∀ k x, (A.set i e l).U k x = if k = e ∧ x = A.id i then some l else A.U k x := fun _ _ => rfl
  have hepi : (A.set i e l).ep i = e := if_pos rfl
  have hep : ∀ j, j ≠ i → (A.set i e l).ep j = A.ep j := fun j hj => if_neg hj
  have hlg : ∀ j, j ≠ i → (A.set i e l).lg j = A.lg j := fun j hj => if_neg hj
  have hwh : ∀ j, j ≠ i → (A.set i e l).wh j = A.wh j := fun j hj => if_neg hj
  have hidne : ∀ j, j ≠ i → A.id j ≠ A.id i := fun j hj h => hj (congrArg Prod.fst h)
  have anc' : ∀ {k z S}, Anc A k z S → Anc (A.set i e l) k z S := by
    rintro k z S ⟨org, ho⟩
    refine ⟨org, ho.step (fun _ _ => rfl) (fun _ _ _ hg => St.set_gone he hg) fun k' hk' x lx hle hu => ?_⟩
    rw [hU] at hu
    by_cases hc : k' = e ∧ x = A.id i
    · rw [if_pos hc] at hu; obtain ⟨rfl, rfl⟩ := hc
      cases hu; exact n1 k z S org ho hk' (ho.gone _ hk' hne) hle
    · rw [if_neg hc] at hu
      exact ho.has k' hk' (fun h0 => by have := hle.mem2; rw [h0] at this; cases this) x lx hle hu
  refine { one := h.one, old := h.old, emp := h.emp, zero := h.zero, ends := h.ends, born := h.born, ffF := h.ffF, fm := h.fm, late := ?_, back := h.back, epE := ?_, good := ?_, tie := ?_, fut := ?_, mem := ?_, bare := ?_, within := ?_, anc := ?_, skip := ?_, sayU := ?_, sayL := h.sayL, sayA := ?_, sayB := ?_ }
  · intro k j hf
    by_cases hj : j = i
    · subst hj; rw [hepi]; rcases h.late k j hf with h1 | h1
      · exact .inl (by omega)
      · exact .inr h1
    · rw [hep j hj]; exact h.late k j hf
  · intro j
    by_cases hj : j = i
    · subst hj; rw [hepi]; exact Nat.le_of_not_lt fun h0 => hne (h.ends e h0)
    · rw [hep j hj]; exact h.epE j
  · intro j hf
    by_cases hj : j = i
    · subst hj; exact if_pos rfl
    · rw [hwh j hj]; rw [hep j hj] at hf; exact h.good j hf
  · intro j
    by_cases hj : j = i
    · subst hj; rw [hepi, hU]; show (if e = e ∧ A.id j = A.id j then some l else _) = _
      simp [St.set]
    · rw [hep j hj, hwh j hj, hlg j hj, hU, if_neg (fun hc => hidne j hj hc.2)]; exact h.tie j
  · intro j k hk
    by_cases hj : j = i
    · subst hj; rw [hepi] at hk; rw [hU, if_neg (fun hc => by omega)]; exact h.fut j k (by omega)
    · rw [hep j hj] at hk; rw [hU, if_neg (fun hc => hidne j hj hc.2)]; exact h.fut j k hk
  · intro k x lx hu
    rw [hU] at hu
    by_cases hc : k = e ∧ x = A.id i
    · obtain ⟨rfl, rfl⟩ := hc; exact hm
    · rw [if_neg hc] at hu; exact h.mem k x lx hu
  · intro j h0
    by_cases hj : j = i
    · subst hj; rw [hepi] at h0; exact absurd h0 hne
    · rw [hep j hj] at h0; rw [hlg j hj]; exact h.bare j h0
  · intro k a b la lb hl ha hb
    rw [hU] at ha hb
    by_cases hca : k = e ∧ a = A.id i
    · rw [if_pos hca] at ha; obtain ⟨rfl, rfl⟩ := hca; cases ha
      rw [if_neg (fun hc => (h.one _).ne hl hc.2.symm)] at hb; exact u1 b lb hl hb
    · rw [if_neg hca] at ha
      by_cases hcb : k = e ∧ b = A.id i
      · rw [if_pos hcb] at hb; obtain ⟨rfl, rfl⟩ := hcb; cases hb; exact n2 a la hl ha
      · rw [if_neg hcb] at hb; exact h.within k a b la lb hl ha hb
  · intro k z S hu
    rw [hU] at hu
    by_cases hc : k = e ∧ z = A.id i
    · rw [if_pos hc] at hu; obtain ⟨rfl, rfl⟩ := hc; cases hu; exact u2
    · rw [if_neg hc] at hu; exact anc' (h.anc k z S hu)
  · intro j k hk hf y ly hl hu
    rw [hU] at hu
    by_cases hj : j = i
    · subst hj; rw [hepi] at hk; rw [if_neg (fun hc => by omega)] at hu
      show ly <+: if j = j then l else _
      rw [if_pos rfl]; exact u3 k hk hf y ly hl hu
    · rw [hep j hj] at hk; rw [hlg j hj]
      by_cases hc : k = e ∧ y = A.id i
      · rw [if_pos hc] at hu; obtain ⟨rfl, rfl⟩ := hc; cases hu; exact n3 j hk hf hl
      · rw [if_neg hc] at hu; exact h.skip j k hk hf y ly hl hu
  · intro k p z S hs
    obtain ⟨a, ha, hp⟩ := h.sayU k p z S hs
    rw [hU]
    by_cases hc : k = e ∧ p = A.id i
    · rw [if_pos hc]; obtain ⟨rfl, rfl⟩ := hc; exact ⟨l, rfl, hp.trans (u4 a ha)⟩
    · rw [if_neg hc]; exact ⟨a, ha, hp⟩
  · intro k p z S hs; exact anc' (h.sayA k p z S hs)
  · intro k p z S hs hz y ly hl hu
    rw [hU] at hz hu
    by_cases hcz : k = e ∧ z = A.id i
    · rw [if_pos hcz] at hz; cases hz
    · rw [if_neg hcz] at hz
      by_cases hc : k = e ∧ y = A.id i
      · rw [if_pos hc] at hu; obtain ⟨rfl, rfl⟩ := hc; cases hu
        exact n4 p z S hs hz (fun h0 => hcz ⟨rfl, h0⟩) hl
      · rw [if_neg hc] at hu; exact h.sayB k p z S hs hz y ly hl hu
end
end Go.Ch.Agr

/- Agreement: what a member does to its log: it grows, it is loaded, it comes to a later epoch. -/
namespace Go.Ch.Agr
variable {C : Type} {A : St C} {i : Nat}

theorem Le.ne {l : List Id} {a b : Id} (h : Le l a b) : l ≠ [] := by
  intro h0; have := h.mem2; rw [h0] at this; cases this
theorem ne_of_mem {l : List Id} {a : Id} (h : a ∈ l) : l ≠ [] := by rintro rfl; cases h

theorem Frm.inE (h : Frm A) {e : Nat} {x : Id} (hm : x ∈ A.M e) : e ≤ A.E :=
  Nat.le_of_not_lt fun h0 => ne_of_mem hm (h.ends e h0)

/-- Whoever is flagged at a later epoch was so ever since its disk's epoch. -/
theorem Frm.stay (h : Frm A) {e : Nat} (hf : A.FF e (A.id i)) : ∀ k, A.ep i ≤ k → k ≤ e → A.M k = [] ∨ A.F k (A.id i) := by
  suffices H : ∀ d k, k + d = e → A.ep i ≤ k → A.M k = [] ∨ A.F k (A.id i) from fun k h1 h2 => H (e - k) k (by omega) h1
  have hE := h.inE (h.fm e _ (h.ffF e _ hf))
  intro d
  induction d with
  | zero => intro k hk _; have : k = e := by omega
            subst this; exact .inr (h.ffF _ _ hf)
  | succ d ih =>
    intro k hk he
    rcases ih (k + 1) (by omega) (by omega) with h1 | h1
    · exact .inl (h.emp (k + 1) k (by omega) (by omega) h1)
    · rcases h.late (k + 1) i h1 with h2 | h2
      · omega
      · rcases h.back k _ h2 with h3 | h3
        · exact .inr h3
        · exact .inl h3
theorem Frm.stayF (h : Frm A) {e : Nat} (hf : A.FF e (A.id i)) (k : Nat) (h1 : A.ep i < k) (h2 : k ≤ e) : A.M k = [] ∨ A.FF k (A.id i) := by
  rcases h.stay hf k (by omega) h2 with h3 | h3
  · exact .inl h3
  · rcases h.late k i h3 with h4 | h4
    · omega
    · exact .inr h4

/-- What is one's own log's. -/
theorem Good.own (h : Good A) (hw : A.wh i = true ∨ A.M (A.ep i) = []) : Anc A (A.ep i) (A.id i) (A.lg i) ∧
    (∀ j lj, Lt (A.M (A.ep i)) (A.id i) j → A.U (A.ep i) j = some lj → lj <+: A.lg i) ∧
    (A.lg i = [] ∨ A.U (A.ep i) (A.id i) = some (A.lg i)) := by
  rcases hw with hw | hw
  · have ht := h.tie i; rw [if_pos hw] at ht
    exact ⟨h.anc _ _ _ ht, fun j lj hl hu => h.within _ _ _ _ _ hl ht hu, .inr ht⟩
  · have hE := h.epE i
    refine ⟨⟨fun _ => A.id i, rfl, ?_, ?_, ?_, ?_⟩, ?_, .inl (h.bare i hw)⟩
    · intro k hk hn; exact absurd (h.emp _ k (by omega) hE hw) hn
    · intro k hk hn; exact absurd (h.emp _ k (by omega) hE hw) hn
    · intro k hk hn; exact absurd (h.emp _ k (by omega) hE hw) hn
    · intro a b hab hb hc; exact absurd (h.emp _ a (by omega) hE hw) (ne_of_mem (hc a (by omega) (by omega)))
    · intro j lj hl; rw [hw] at hl; exact absurd hl.mem2 (by simp)

theorem AncO.up {e : Nat} {z : Id} {S S' : List C} {org : Nat → Id} (h : AncO A e z S org) (hS : S <+: S') : AncO A e z S' org :=
  { h with has := fun k hk hn j l hl hu => (h.has k hk hn j l hl hu).trans hS }

/-- What is taken from the one ahead. -/
theorem Good.from (h : Good A) {q : Nat} {p : Id} {a l : List C} (hp : (A.M (A.ep i))[q]? = some p) (hx : (A.M (A.ep i))[q + 1]? = some (A.id i))
    (ha : A.U (A.ep i) p = some a) (hl : l <+: a)
    (u1 : ∀ y ly, Lt (A.M (A.ep i)) (A.id i) y → A.U (A.ep i) y = some ly → ly <+: l)
    (u2 : Anc (A.set i (A.ep i) l) (A.ep i) (A.id i) l)
    (u3 : ∀ k, A.ep i < k → A.FF k (A.id i) → ∀ j lj, Lt (A.M k) (A.id i) j → A.U k j = some lj → lj <+: l)
    (u4 : ∀ a, A.U (A.ep i) (A.id i) = some a → a <+: l) : Good (A.set i (A.ep i) l) := by
  have ho := h.one (A.ep i)
  refine h.set (Nat.le_refl _) (List.mem_of_getElem? hx) ?_ ?_ ?_ ?_ u1 u2 u3 u4
  · intro k z S org hA hk hg hle
    rcases hle.split with h0 | h0
    · rw [h0] at hg; rcases hg with hg | hg
      · exact absurd hg (Nat.lt_irrefl _)
      · exact absurd hg.2 (Nat.lt_irrefl _)
    · have := ho.pred hp hx h0
      exact hl.trans (hA.has _ hk this.ne p a this ha)
  · intro y ly hy hu
    rcases (ho.pred hp hx hy).split with h0 | h0
    · subst h0; rw [ha] at hu; cases hu; exact hl
    · exact hl.trans (h.within _ _ _ _ _ h0 hu ha)
  · intro j hj hf hy
    rcases (ho.pred hp hx hy).split with h0 | h0
    · rw [← h0, h.fut j _ hj] at ha; cases ha
    · exact hl.trans (h.skip j _ hj hf p a h0 ha)
  · intro p' z S hs hz hne hy
    rcases (ho.pred hp hx hy).split with h0 | h0
    · rw [← h0, hz] at ha; cases ha
    · exact hl.trans (h.sayB _ p' z S hs hz p a h0 ha)

section grow
variable {l : List C} (h : Good A) (hw : A.wh i = true) (hl : A.lg i <+: l)
include h hw hl
theorem Good.grow_u : (∀ y ly, Lt (A.M (A.ep i)) (A.id i) y → A.U (A.ep i) y = some ly → ly <+: l) ∧
    Anc (A.set i (A.ep i) l) (A.ep i) (A.id i) l ∧
    (∀ k, A.ep i < k → A.FF k (A.id i) → ∀ j lj, Lt (A.M k) (A.id i) j → A.U k j = some lj → lj <+: l) ∧
    (∀ a, A.U (A.ep i) (A.id i) = some a → a <+: l) := by
  have ht := h.tie i; rw [if_pos hw] at ht
  refine ⟨fun y ly hy hu => (h.within _ _ _ _ _ hy ht hu).trans hl, ?_, fun k hk hf j lj hj hu => (h.skip i k hk hf j lj hj hu).trans hl, fun a ha => by rw [ht] at ha; cases ha; exact hl⟩
  obtain ⟨org, ho⟩ := h.anc _ _ _ ht
  refine ⟨org, ho.step (fun _ _ => rfl) (fun _ _ _ hg => St.set_gone (Nat.le_refl _) hg) fun k hk x lx hle hu => ?_⟩
  have hu' : (if k = A.ep i ∧ x = A.id i then some l else A.U k x) = some lx := hu
  rw [if_neg (fun hc => by omega)] at hu'
  exact (ho.has k hk hle.ne x lx hle hu').trans hl
/-- The head takes in a command. -/
theorem Good.head (h0 : (A.M (A.ep i))[0]? = some (A.id i)) : Good (A.set i (A.ep i) l) := by
  obtain ⟨u1, u2, u3, u4⟩ := h.grow_u hw hl
  have ho := h.one (A.ep i)
  refine h.set (Nat.le_refl _) (List.mem_of_getElem? h0) ?_ ?_ ?_ ?_ u1 u2 u3 u4
  · intro k z S org hA hk hg hle
    rcases hle.split with h1 | h1
    · rw [h1] at hg; rcases hg with hg | hg
      · exact absurd hg (Nat.lt_irrefl _)
      · exact absurd hg.2 (Nat.lt_irrefl _)
    · exact (ho.first h0 h1).elim
  · intro y ly hy; exact (ho.first h0 hy).elim
  · intro j hj hf hy; exact (ho.first h0 hy).elim
  · intro p' z S hs hz hne hy; exact (ho.first h0 hy).elim
/-- One behind takes in what the one ahead has. -/
theorem Good.next {q : Nat} {p : Id} {a : List C} (hp : (A.M (A.ep i))[q]? = some p) (hx : (A.M (A.ep i))[q + 1]? = some (A.id i))
    (ha : A.U (A.ep i) p = some a) (hla : l <+: a) : Good (A.set i (A.ep i) l) := by
  obtain ⟨u1, u2, u3, u4⟩ := h.grow_u hw hl
  exact h.from hp hx ha hla u1 u2 u3 u4
end grow

/-- A state is loaded. -/
theorem Good.load (h : Good A) {q : Nat} {p : Id} {S : List C} (hp : (A.M (A.ep i))[q]? = some p) (hx : (A.M (A.ep i))[q + 1]? = some (A.id i))
    (hw : A.wh i = false) (hs : A.Say (A.ep i) p (A.id i) S) : Good (A.set i (A.ep i) S) := by
  have ht := h.tie i; rw [hw] at ht; simp only [Bool.false_eq_true, if_false] at ht
  have ho := h.one (A.ep i)
  have hm := List.mem_of_getElem? hx
  obtain ⟨a, ha, hSa⟩ := h.sayU _ _ _ _ hs
  refine h.from hp hx ha hSa (fun y ly hy hu => h.sayB _ _ _ _ hs ht y ly hy hu) ?_ ?_ (fun a ha => by rw [ht] at ha; cases ha)
  · obtain ⟨org, hA⟩ := h.sayA _ _ _ _ hs
    have hlt := h.sayL _ _ _ _ hs
    refine ⟨fun k => if k < A.ep i then org k else A.id i, if_neg (Nat.lt_irrefl _), ?_, ?_, ?_, ?_⟩
    · intro k hk hn; rw [if_pos hk]; exact hA.mem k hk hn
    · intro k hk hn; rw [if_pos hk]; exact St.set_gone (Nat.le_refl _) (hA.gone k hk hn)
    · intro k hk hn j lj hle hu
      rw [if_pos hk] at hle
      have hu' : (if k = A.ep i ∧ j = A.id i then some S else A.U k j) = some lj := hu
      rw [if_neg (fun hc => by omega)] at hu'
      exact hA.has k hk hn j lj hle hu'
    · intro b c hbc hc hk
      have hb : b < A.ep i := by omega
      rw [if_pos hb]
      by_cases hce : c < A.ep i
      · rw [if_pos hce] at hk ⊢; exact hA.lead b c hbc hc hk
      · rw [if_neg hce] at hk ⊢
        have hce' : c = A.ep i := by omega
        subst hce'
        have he := h.elder (by omega) hlt hk
        have := hA.lead b (A.ep i) hbc (Nat.le_refl _) (fun k k1 k2 => by rw [hA.here]; exact (he k k1 k2).mem1)
        rw [hA.here] at this
        exact ((h.one b).lelt this (he b (by omega) (by omega))).le
  · intro k hk hf
    rcases h.stay hf (A.ep i) (Nat.le_refl _) (by omega) with h1 | h1
    · exact absurd h1 (ne_of_mem hm)
    · have := h.good i h1; rw [hw] at this; cases this

/-- A flagged member comes to a later epoch. -/
theorem Good.come (h : Good A) {e : Nat} (he : A.ep i < e) (hf : A.FF e (A.id i)) : Good (A.set i e (A.lg i)) := by
  have hm := h.fm _ _ (h.ffF _ _ hf)
  have hE := h.inE hm
  have hgo : ∀ j k, A.ep j ≤ k → k ≤ e → A.FF e (A.id j) → (A.wh j = true ∨ A.M (A.ep j) = []) := by
    intro j k h1 h2 h3
    rcases h.stay h3 (A.ep j) (Nat.le_refl _) (by omega) with h4 | h4
    · exact .inr h4
    · exact .inl (h.good j h4)
  obtain ⟨o1, o2, o3⟩ := h.own (hgo i (A.ep i) (Nat.le_refl _) (by omega) hf)
  have o4 : A.lg i = [] ∨ (A.U (A.ep i) (A.id i) = some (A.lg i) ∧ ∀ k, A.ep i ≤ k → k ≤ e → A.id i ∈ A.M k) := by
    rcases o3 with h1 | h1
    · exact .inl h1
    · refine .inr ⟨h1, fun k k1 k2 => ?_⟩
      rcases h.stay hf k k1 k2 with h2 | h2
      · exact absurd (h.emp k (A.ep i) k1 (by omega) h2) (ne_of_mem (h.mem _ _ _ h1))
      · exact h.fm _ _ h2
  have ng : ¬ A.gone e (A.id i) := by
    rintro (hg | hg)
    · exact absurd hg (Nat.lt_irrefl _)
    · exact absurd hg.2 (by show ¬ e < A.ep i; omega)
  -- whoever is ahead of it at e, and has an ancestry
  have key : ∀ {y k z S org}, AncO A k z S org → e ≤ k → org e = y → Lt (A.M e) y (A.id i) → A.lg i <+: S := by
    intro y k z S org hA hk hy hlt
    rcases o4 with h1 | ⟨h1, h2⟩
    · rw [h1]; exact List.nil_prefix
    have hel := h.elder (Nat.le_of_lt he) hlt h2
    have := hA.lead (A.ep i) e he hk (fun k k1 k2 => by rw [hy]; exact (hel k k1 k2).mem1)
    rw [hy] at this
    have hle := ((h.one _).lelt this (hel _ (Nat.le_refl _) (by omega))).le
    exact hA.has _ (by omega) hle.ne _ _ hle h1
  refine h.set (Nat.le_of_lt he) hm ?_ ?_ ?_ ?_ ?_ ?_ ?_ ?_
  · intro k z S org hA hk hg hle
    rcases hle.split with h0 | h0
    · rw [h0] at hg; exact absurd hg ng
    · exact key hA (by omega) rfl h0
  · intro y ly hy hu
    obtain ⟨org, hA⟩ := h.anc _ _ _ hu
    exact key hA (Nat.le_refl _) hA.here hy
  · intro j hj hfj hlt
    rcases o4 with h1 | ⟨h1, h2⟩
    · rw [h1]; exact List.nil_prefix
    have hel := h.elder (Nat.le_of_lt he) hlt h2
    have hne : A.M (A.ep i) ≠ [] := ne_of_mem (h2 _ (Nat.le_refl _) (by omega))
    rcases Nat.lt_trichotomy (A.ep j) (A.ep i) with h3 | h3 | h3
    · rcases h.stayF hfj (A.ep i) h3 (by omega) with h4 | h4
      · exact absurd h4 hne
      · exact h.skip j _ h3 h4 _ _ (hel _ (Nat.le_refl _) (by omega)) h1
    · rcases h.stay hfj (A.ep j) (Nat.le_refl _) (by omega) with h4 | h4
      · rw [h3] at h4; exact absurd h4 hne
      · have hw := h.good j h4
        have ht := h.tie j; rw [if_pos hw, h3] at ht
        exact h.within _ _ _ _ _ (hel _ (Nat.le_refl _) (by omega)) ht h1
    · obtain ⟨⟨org, hA⟩, _, _⟩ := h.own (hgo j (A.ep j) (Nat.le_refl _) (by omega) hfj)
      have := hA.lead (A.ep i) (A.ep j) h3 (Nat.le_refl _) (fun k k1 k2 => by rw [hA.here]; exact (hel k k1 (by omega)).mem1)
      rw [hA.here] at this
      have hle := ((h.one _).lelt this (hel _ (Nat.le_refl _) (by omega))).le
      exact hA.has _ h3 hle.ne _ _ hle h1
  · intro p z S hs hz hne hlt
    obtain ⟨org, hA⟩ := h.sayA _ _ _ _ hs
    exact key hA (Nat.le_refl _) hA.here ((h.one _).ltle (h.sayL _ _ _ _ hs) hlt.le)
  · intro y ly hy hu; exact h.skip i e he hf y ly hy hu
  · obtain ⟨org, hA⟩ := o1
    have hin : ∀ k, A.ep i ≤ k → k < e → A.M k ≠ [] → A.id i ∈ A.M k := by
      intro k k1 k2 hn
      rcases h.stay hf k k1 (by omega) with h2 | h2
      · exact absurd h2 hn
      · exact h.fm _ _ h2
    refine ⟨fun k => if k < A.ep i then org k else A.id i, if_neg (by omega), ?_, ?_, ?_, ?_⟩
    · intro k hk hn
      by_cases h1 : k < A.ep i
      · rw [if_pos h1]; exact hA.mem k h1 hn
      · rw [if_neg h1]; exact hin k (by omega) hk hn
    · intro k hk hn
      by_cases h1 : k < A.ep i
      · rw [if_pos h1]; exact St.set_gone (Nat.le_of_lt he) (hA.gone k h1 hn)
      · rw [if_neg h1]; refine .inr ⟨rfl, ?_⟩
        show k < if i = i then e else _
        rw [if_pos rfl]; exact hk
    · intro k hk hn j lj hle hu
      have hu' : (if k = e ∧ j = A.id i then some (A.lg i) else A.U k j) = some lj := hu
      rw [if_neg (fun hc => by omega)] at hu'
      by_cases h1 : k < A.ep i
      · rw [if_pos h1] at hle; exact hA.has k h1 hn j lj hle hu'
      · rw [if_neg h1] at hle
        rcases Nat.lt_or_ge (A.ep i) k with h2 | h2
        · rcases hle.split with h3 | h3
          · rw [← h3, h.fut i k h2] at hu'; cases hu'
          · rcases h.stayF hf k h2 (by omega) with h4 | h4
            · exact absurd h4 hn
            · exact h.skip i k h2 h4 j lj h3 hu'
        · have : k = A.ep i := by omega
          subst this
          rcases hle.split with h3 | h3
          · rw [← h3, h.tie i] at hu'
            split at hu'
            · cases hu'; exact List.prefix_rfl
            · cases hu'
          · exact o2 j lj h3 hu'
    · intro b c hbc hc hk
      by_cases h1 : c < A.ep i
      · rw [if_pos h1] at hk ⊢; rw [if_pos (by omega)]; exact hA.lead b c hbc (by omega) hk
      · rw [if_neg h1] at hk ⊢
        by_cases h2 : b < A.ep i
        · rw [if_pos h2]
          have := hA.lead b (A.ep i) h2 (Nat.le_refl _) (fun k k1 k2 => by rw [hA.here]; exact hk k k1 (by omega))
          rw [hA.here] at this; exact this
        · rw [if_neg h2]; exact Le.refl (hk b (by omega) (by omega))
  · intro k hk hfk; exact h.skip i k (by omega) hfk
  · intro a ha; rw [h.fut i e he] at ha; cases ha
end Go.Ch.Agr

/- Agreement: what else happens: an epoch without a flag, a lost disk, a new epoch, a new flag, a state that is sent; and the row of commits. -/
namespace Go.Ch.Agr
variable {C : Type} {A : St C} {i : Nat}

theorem Anc.mono {A' : St C} {e : Nat} {z : Id} {S : List C} (h : Anc A e z S) (hM : ∀ k, k ≤ e → A'.M k = A.M k)
    (hg : ∀ k, ∀ x ∈ A.M k, A.gone k x → A'.gone k x) (hU : ∀ k < e, A'.U k = A.U k) : Anc A' e z S := by
  obtain ⟨org, ho⟩ := h
  exact ⟨org, ho.step hM hg fun k hk x l hl hu => ho.has k hk hl.ne x l hl (by rw [← hU k hk]; exact hu)⟩

/-- An unflagged member comes to a later epoch. -/
def St.idle (A : St C) (i e : Nat) : St C :=
  { A with ep := fun j => if j = i then e else A.ep j
           wh := fun j => if j = i then false else A.wh j }
theorem Good.idle (h : Good A) {e : Nat} (he : A.ep i < e) (hm : A.id i ∈ A.M e) (hf : ¬ A.F e (A.id i)) : Good (A.idle i e) := by
  have hepi : (A.idle i e).ep i = e := if_pos rfl
  have hep : ∀ j, j ≠ i → (A.idle i e).ep j = A.ep j := fun j hj => if_neg hj
  have hwh : ∀ j, j ≠ i → (A.idle i e).wh j = A.wh j := fun j hj => if_neg hj
  have hgo : ∀ k x, A.gone k x → (A.idle i e).gone k x := by
    intro k x hg
    rcases hg with hg | hg
    · exact .inl hg
    · refine .inr ⟨hg.1, ?_⟩
      show k < if x.1 = i then e else A.ep x.1
      by_cases hx : x.1 = i
      · rw [if_pos hx]; rw [hx] at hg; omega
      · rw [if_neg hx]; exact hg.2
  have anc' : ∀ {k z S}, Anc A k z S → Anc (A.idle i e) k z S := fun hA => hA.mono (fun _ _ => rfl) (fun k x _ => hgo k x) (fun _ _ => rfl)
  refine { one := h.one, old := h.old, emp := h.emp, zero := h.zero, ends := h.ends, born := h.born, ffF := h.ffF, fm := h.fm, late := ?_, back := h.back, epE := ?_, good := ?_, tie := ?_, fut := ?_, mem := h.mem, bare := ?_, within := h.within, anc := fun k z S hu => anc' (h.anc k z S hu), skip := ?_, sayU := h.sayU, sayL := h.sayL, sayA := fun k p z S hs => anc' (h.sayA k p z S hs), sayB := h.sayB }
  · intro k j hk
    by_cases hj : j = i
    · subst hj; rw [hepi]; rcases h.late k j hk with h1 | h1
      · exact .inl (by omega)
      · exact .inr h1
    · rw [hep j hj]; exact h.late k j hk
  · intro j
    by_cases hj : j = i
    · subst hj; rw [hepi]; exact h.inE hm
    · rw [hep j hj]; exact h.epE j
  · intro j hk
    by_cases hj : j = i
    · subst hj; rw [hepi] at hk; exact absurd hk hf
    · rw [hwh j hj]; rw [hep j hj] at hk; exact h.good j hk
  · intro j
    by_cases hj : j = i
    · subst hj; rw [hepi]
      show A.U e (A.id j) = if (if j = j then false else _) = true then _ else _
      rw [if_pos rfl, h.fut j e he]; rfl
    · rw [hep j hj, hwh j hj]; exact h.tie j
  · intro j k hk
    by_cases hj : j = i
    · subst hj; rw [hepi] at hk; exact h.fut j k (by omega)
    · rw [hep j hj] at hk; exact h.fut j k hk
  · intro j h0
    by_cases hj : j = i
    · subst hj; rw [hepi] at h0; exact absurd h0 (ne_of_mem hm)
    · rw [hep j hj] at h0; exact h.bare j h0
  · intro j k hk
    by_cases hj : j = i
    · subst hj; rw [hepi] at hk; exact h.skip j k (by omega)
    · rw [hep j hj] at hk; exact h.skip j k hk

/-- A disk is lost. -/
def St.lose (A : St C) (i : Nat) : St C :=
  { A with bir := fun j => if j = i then A.bir i + 1 else A.bir j
           ep := fun j => if j = i then 0 else A.ep j
           wh := fun j => if j = i then false else A.wh j
           lg := fun j => if j = i then [] else A.lg j }
theorem Good.lose (h : Good A) : Good (A.lose i) := by
  have hbi : (A.lose i).bir i = A.bir i + 1 := if_pos rfl
  have hb : ∀ j, j ≠ i → (A.lose i).bir j = A.bir j := fun j hj => if_neg hj
  have hepi : (A.lose i).ep i = 0 := if_pos rfl
  have hep : ∀ j, j ≠ i → (A.lose i).ep j = A.ep j := fun j hj => if_neg hj
  have hwh : ∀ j, j ≠ i → (A.lose i).wh j = A.wh j := fun j hj => if_neg hj
  have hlg : ∀ j, j ≠ i → (A.lose i).lg j = A.lg j := fun j hj => if_neg hj
  have hid : ∀ j, j ≠ i → (A.lose i).id j = A.id j := fun j hj => by unfold St.id; rw [hb j hj]
  have hle : ∀ j, A.bir j ≤ (A.lose i).bir j := by
    intro j; by_cases hj : j = i
    · subst hj; rw [hbi]; omega
    · rw [hb j hj]; exact Nat.le_refl _
  have hnew : ∀ k, ¬ (A.lose i).id i ∈ A.M k := by
    intro k hk; have := h.born k _ hk
    have h2 : (A.lose i).bir i ≤ A.bir i := this
    rw [hbi] at h2; omega
  have hU : ∀ k, A.U k ((A.lose i).id i) = none := by
    intro k; cases hu : A.U k ((A.lose i).id i) with
    | none => rfl
    | some l => exact absurd (h.mem _ _ _ hu) (hnew k)
  have hgo : ∀ k x, A.gone k x → (A.lose i).gone k x := by
    intro k x hg
    by_cases hx : x.1 = i
    · refine .inl ?_
      rw [hx, hbi]; rcases hg with hg | hg
      · rw [hx] at hg; omega
      · rw [hx] at hg; omega
    · rcases hg with hg | hg
      · exact .inl (by rw [hb _ hx]; exact hg)
      · exact .inr (by rw [hb _ hx, hep _ hx]; exact hg)
  have anc' : ∀ {k z S}, Anc A k z S → Anc (A.lose i) k z S := fun hA => hA.mono (fun _ _ => rfl) (fun k x _ => hgo k x) (fun _ _ => rfl)
  refine { one := h.one, old := h.old, emp := h.emp, zero := h.zero, ends := h.ends, born := fun e x hx => Nat.le_trans (h.born e x hx) (hle _), ffF := h.ffF, fm := h.fm, late := ?_, back := h.back, epE := ?_, good := ?_, tie := ?_, fut := ?_, mem := h.mem, bare := ?_, within := h.within, anc := fun k z S hu => anc' (h.anc k z S hu), skip := ?_, sayU := h.sayU, sayL := h.sayL, sayA := fun k p z S hs => anc' (h.sayA k p z S hs), sayB := h.sayB }
  · intro k j hk
    by_cases hj : j = i
    · subst hj; exact absurd (h.fm _ _ hk) (hnew k)
    · rw [hid j hj] at hk ⊢; rw [hep j hj]; exact h.late k j hk
  · intro j
    by_cases hj : j = i
    · subst hj; rw [hepi]; exact Nat.zero_le _
    · rw [hep j hj]; exact h.epE j
  · intro j hk
    by_cases hj : j = i
    · subst hj; exact absurd (h.fm _ _ hk) (hnew _)
    · rw [hwh j hj]; rw [hep j hj, hid j hj] at hk; exact h.good j hk
  · intro j
    by_cases hj : j = i
    · subst hj
      show A.U _ _ = if (if j = j then false else _) = true then _ else _
      rw [if_pos rfl, hU]; rfl
    · rw [hep j hj, hwh j hj, hid j hj, hlg j hj]; exact h.tie j
  · intro j k hk
    by_cases hj : j = i
    · subst hj; exact hU k
    · rw [hep j hj] at hk; rw [hid j hj]; exact h.fut j k hk
  · intro j h0
    by_cases hj : j = i
    · subst hj; exact if_pos rfl
    · rw [hep j hj] at h0; rw [hlg j hj]; exact h.bare j h0
  · intro j k hk hf
    by_cases hj : j = i
    · subst hj; exact absurd (h.fm _ _ (h.ffF _ _ hf)) (hnew k)
    · rw [hep j hj] at hk; rw [hid j hj] at hf ⊢; rw [hlg j hj]; exact h.skip j k hk hf

/-- A new epoch. -/
def St.next (A : St C) (L : List Id) (P : Id → Prop) : St C :=
  { A with E := A.E + 1
           M := fun k => if k = A.E + 1 then L else A.M k
           FF := fun k x => if k = A.E + 1 then P x else A.FF k x
           F := fun k x => if k = A.E + 1 then P x else A.F k x }
theorem Good.nextE (h : Good A) {L : List Id} {P : Id → Prop} (h1 : One L) (h2 : ∀ a b, Lt L a b → b ∈ A.M A.E → Lt (A.M A.E) a b)
    (h3 : L = [] → A.M A.E = []) (h4 : ∀ x ∈ L, x.2 ≤ A.bir x.1) (h5 : ∀ x, P x → x ∈ L) (h6 : ∀ x, P x → A.F A.E x ∨ A.M A.E = []) : Good (A.next L P) := by
  have hMn : (A.next L P).M (A.E + 1) = L := if_pos rfl
  have hM : ∀ k, k ≠ A.E + 1 → (A.next L P).M k = A.M k := fun k hk => if_neg hk
  have hFn : ∀ x, (A.next L P).F (A.E + 1) x ↔ P x := fun x => by show (if _ then _ else _) ↔ _; rw [if_pos rfl]
  have hF : ∀ k x, k ≠ A.E + 1 → ((A.next L P).F k x ↔ A.F k x) := fun k x hk => by show (if _ then _ else _) ↔ _; rw [if_neg hk]
  have hGn : ∀ x, (A.next L P).FF (A.E + 1) x ↔ P x := fun x => by show (if _ then _ else _) ↔ _; rw [if_pos rfl]
  have hG : ∀ k x, k ≠ A.E + 1 → ((A.next L P).FF k x ↔ A.FF k x) := fun k x hk => by show (if _ then _ else _) ↔ _; rw [if_neg hk]
  have h0 := h.ends (A.E + 1) (by omega)
  have hUn : ∀ x, A.U (A.E + 1) x = none := by
    intro x; cases hu : A.U (A.E + 1) x with
    | none => rfl
    | some l => have := h.mem _ _ _ hu; rw [h0] at this; cases this
  have sub : ∀ k x, x ∈ A.M k → k ≠ A.E + 1 := by rintro k x hx rfl; rw [h0] at hx; cases hx
  have anc' : ∀ {k z S}, z ∈ A.M k → Anc A k z S → Anc (A.next L P) k z S := fun hz hA =>
    hA.mono (fun k' hk => hM k' (by have := h.inE hz; omega)) (fun _ _ _ hg => hg) (fun _ _ => rfl)
  refine { one := ?_, old := ?_, emp := ?_, zero := ?_, ends := ?_, born := ?_, ffF := ?_, fm := ?_, late := ?_, back := ?_, epE := fun j => Nat.le_succ_of_le (h.epE j), good := ?_, tie := h.tie, fut := h.fut, mem := ?_, bare := ?_, within := ?_, anc := fun k z S hu => anc' (h.mem _ _ _ hu) (h.anc k z S hu), skip := ?_, sayU := h.sayU, sayL := ?_, sayA := fun k p z S hs => anc' (h.sayL _ _ _ _ hs).mem1 (h.sayA k p z S hs), sayB := ?_ }
  · intro k; by_cases hk : k = A.E + 1
    · subst hk; rw [hMn]; exact h1
    · rw [hM k hk]; exact h.one k
  · intro k a b hl hb
    by_cases hk : k + 1 = A.E + 1
    · have : k = A.E := by omega
      subst this; rw [hMn] at hl; rw [hM _ (by omega)] at hb ⊢; exact h2 a b hl hb
    · rw [hM _ hk] at hl
      by_cases hk2 : k = A.E + 1
      · subst hk2; rw [h.ends _ (by omega)] at hl; cases hl.mem1
      · rw [hM k hk2] at hb ⊢; exact h.old k a b hl hb
  · intro k f hf hk hn
    have hk' : k ≤ A.E + 1 := hk
    by_cases hke : k = A.E + 1
    · subst hke; rw [hMn] at hn
      have hE := h3 hn
      by_cases hfe : f = A.E + 1
      · subst hfe; rw [hMn]; exact hn
      · rw [hM f hfe]; exact h.emp A.E f (by omega) (Nat.le_refl _) hE
    · rw [hM k hke] at hn; rw [hM f (by omega)]; exact h.emp k f hf (by omega) hn
  · rw [hM 0 (by omega)]; exact h.zero
  · intro k hk; have hk' : A.E + 1 < k := hk
    rw [hM k (by omega)]; exact h.ends k (by omega)
  · intro k x hx
    by_cases hk : k = A.E + 1
    · subst hk; rw [hMn] at hx; exact h4 x hx
    · rw [hM k hk] at hx; exact h.born k x hx
  · intro k x hx
    by_cases hk : k = A.E + 1
    · subst hk; exact (hFn x).mpr ((hGn x).mp hx)
    · exact (hF k x hk).mpr (h.ffF k x ((hG k x hk).mp hx))
  · intro k x hx
    by_cases hk : k = A.E + 1
    · subst hk; rw [hMn]; exact h5 x ((hFn x).mp hx)
    · rw [hM k hk]; exact h.fm k x ((hF k x hk).mp hx)
  · intro k j hx
    by_cases hk : k = A.E + 1
    · subst hk; exact .inr ((hGn _).mpr ((hFn _).mp hx))
    · rcases h.late k j ((hF k _ hk).mp hx) with h7 | h7
      · exact .inl h7
      · exact .inr ((hG k _ hk).mpr h7)
  · intro k x hx
    by_cases hk : k + 1 = A.E + 1
    · have : k = A.E := by omega
      subst this
      rw [hM _ (by omega), hF _ _ (by omega)]; exact h6 x ((hGn x).mp hx)
    · have hx' := (hG _ x hk).mp hx
      have := h.inE (h.fm _ _ (h.ffF _ _ hx'))
      rw [hM _ (by omega), hF _ _ (by omega)]; exact h.back k x hx'
  · intro j hx
    have := h.epE j
    exact h.good j ((hF _ _ (by show A.ep j ≠ _; omega)).mp hx)
  · intro k x l hu
    have hx := h.mem k x l hu
    rw [hM k (sub k x hx)]; exact hx
  · intro j hn
    have := h.epE j
    rw [hM _ (by show A.ep j ≠ _; omega)] at hn; exact h.bare j hn
  · intro k a b la lb hl ha hb
    rw [hM k (sub k a (h.mem _ _ _ ha))] at hl; exact h.within k a b la lb hl ha hb
  · intro j k hk hf y l hl hu
    have hn := sub k y (h.mem _ _ _ hu)
    rw [hM k hn] at hl; exact h.skip j k hk ((hG k _ hn).mp hf) y l hl hu
  · intro k p z S hs
    have := h.sayL k p z S hs
    rw [hM k (sub k p this.mem1)]; exact this
  · intro k p z S hs hz j l hl hu
    rw [hM k (sub k j (h.mem _ _ _ hu))] at hl; exact h.sayB k p z S hs hz j l hl hu

/-- A new flag. -/
def St.flag (A : St C) (x : Id) : St C := { A with F := fun k y => A.F k y ∨ (k = A.E ∧ y = x) }
theorem Good.flag (h : Good A) (hw : A.wh i = true) (he : A.ep i = A.E) : Good (A.flag (A.id i)) := by
  have ht := h.tie i; rw [if_pos hw] at ht
  have hm := h.mem _ _ _ ht
  have anc' : ∀ {k z S}, Anc A k z S → Anc (A.flag (A.id i)) k z S := fun hA => hA.mono (fun _ _ => rfl) (fun k x _ hg => hg) (fun _ _ => rfl)
  refine { one := h.one, old := h.old, emp := h.emp, zero := h.zero, ends := h.ends, born := h.born, ffF := fun k x hx => .inl (h.ffF k x hx), fm := ?_, late := ?_, back := ?_, epE := h.epE, good := ?_, tie := h.tie, fut := h.fut, mem := h.mem, bare := h.bare, within := h.within, anc := fun k z S hu => anc' (h.anc k z S hu), skip := h.skip, sayU := h.sayU, sayL := h.sayL, sayA := fun k p z S hs => anc' (h.sayA k p z S hs), sayB := h.sayB }
  · rintro k x (hx | ⟨rfl, rfl⟩)
    · exact h.fm k x hx
    · rw [← he]; exact hm
  · rintro k j (hx | ⟨rfl, hx⟩)
    · exact h.late k j hx
    · have : j = i := congrArg Prod.fst hx
      subst this; exact .inl (Nat.le_of_eq he.symm)
  · intro k x hx
    rcases h.back k x hx with h1 | h1
    · exact .inl (.inl h1)
    · exact .inr h1
  · rintro j (hx | ⟨hj, hx⟩)
    · exact h.good j hx
    · have : j = i := congrArg Prod.fst hx
      subst this; exact hw

/-- A state is sent. -/
def St.say (A : St C) (e : Nat) (p z : Id) (S : List C) : St C := { A with Say := fun k a b T => A.Say k a b T ∨ (k = e ∧ a = p ∧ b = z ∧ T = S) }
theorem Good.say (h : Good A) {e : Nat} {p z : Id} {S : List C} (hl : Lt (A.M e) p z) (hu : A.U e p = some S) : Good (A.say e p z S) := by
  have anc' : ∀ {k z' S'}, Anc A k z' S' → Anc (A.say e p z S) k z' S' := fun hA => hA.mono (fun _ _ => rfl) (fun k x _ hg => hg) (fun _ _ => rfl)
  refine { one := h.one, old := h.old, emp := h.emp, zero := h.zero, ends := h.ends, born := h.born, ffF := h.ffF, fm := h.fm, late := h.late, back := h.back, epE := h.epE, good := h.good, tie := h.tie, fut := h.fut, mem := h.mem, bare := h.bare, within := h.within, anc := fun k z S hu => anc' (h.anc k z S hu), skip := h.skip, sayU := ?_, sayL := ?_, sayA := ?_, sayB := ?_ }
  · rintro k a b T (hs | ⟨rfl, rfl, rfl, rfl⟩)
    · exact h.sayU k a b T hs
    · exact ⟨T, hu, List.prefix_rfl⟩
  · rintro k a b T (hs | ⟨rfl, rfl, rfl, rfl⟩)
    · exact h.sayL k a b T hs
    · exact hl
  · rintro k a b T (hs | ⟨rfl, rfl, rfl, rfl⟩)
    · exact anc' (h.sayA k a b T hs)
    · exact anc' (h.anc _ _ _ hu)
  · rintro k a b T (hs | ⟨rfl, rfl, rfl, rfl⟩)
    · exact h.sayB k a b T hs
    · intro _ j lj hj huj; exact h.within _ _ _ _ _ ((h.one _).ltle hl hj.le) hu huj

def lastI (l : List Id) : Option Id := l[l.length - 1]?
def join (R l : List C) : List C := if R.length < l.length then l else R
structure RowOk (A : St C) (R : List C) : Prop where
  tails : ∀ e t l, lastI (A.M e) = some t → A.U e t = some l → l <+: R
  src : R = [] ∨ ∃ e t, lastI (A.M e) = some t ∧ A.U e t = some R

theorem Good.tails (h : Good A) {e e' : Nat} {t z : Id} {l l' : List C} (he : e < e') (ht : lastI (A.M e) = some t) (hu : A.U e t = some l) (hu' : A.U e' z = some l') : l <+: l' := by
  obtain ⟨org, hA⟩ := h.anc _ _ _ hu'
  have hne := ne_of_mem (h.mem _ _ _ hu)
  exact hA.has e he hne t l (Le.last ht (hA.mem e he hne)) hu

/-- Whoever is whole at the newest epoch has the whole row. -/
theorem RowOk.newest {R : List C} (r : RowOk A R) (h : Good A) {z : Id} {l : List C} (hu : A.U A.E z = some l) : R <+: l := by
  rcases r.src with h0 | ⟨e, t, ht, hR⟩
  · rw [h0]; exact List.nil_prefix
  · have := h.inE (h.mem _ _ _ hR)
    rcases Nat.lt_or_ge e A.E with h1 | h1
    · exact h.tails h1 ht hR hu
    · have : e = A.E := by omega
      subst this
      rcases (Le.last ht (h.mem _ _ _ hu)).split with h2 | h2
      · subst h2; rw [hu] at hR; cases hR; exact List.prefix_rfl
      · exact h.within _ _ _ _ _ h2 hu hR

theorem RowOk.same {A' : St C} {R : List C} (r : RowOk A R) (hM : ∀ k x l, A'.U k x = some l → A'.M k = A.M k) (hU : A'.U = A.U) : RowOk A' R where
  tails e t l ht hu := by rw [hM e t l hu] at ht; rw [hU] at hu; exact r.tails e t l ht hu
  src := by
    rcases r.src with h | ⟨e, t, ht, hu⟩
    · exact .inl h
    · refine .inr ⟨e, t, ?_, by rw [hU]; exact hu⟩
      rw [hM e t R (by rw [hU]; exact hu)]; exact ht

section set
variable {R l : List C} {e : Nat}
theorem RowOk.set_other (r : RowOk A R) (hl : lastI (A.M e) ≠ some (A.id i)) : RowOk (A.set i e l) R where
  tails k t x ht hu := by
    have hu' : (if k = e ∧ t = A.id i then some l else A.U k t) = some x := hu
    rw [if_neg (fun hc => hl (by rw [← hc.1, ← hc.2]; exact ht))] at hu'
    exact r.tails k t x ht hu'
  src := by
    rcases r.src with h | ⟨k, t, ht, hu⟩
    · exact .inl h
    · refine .inr ⟨k, t, ht, ?_⟩
      show (if k = e ∧ t = A.id i then some l else A.U k t) = some R
      rw [if_neg (fun hc => hl (by rw [← hc.1, ← hc.2]; exact ht))]; exact hu

theorem join_of (h : l <+: R ∨ R <+: l) : (R <+: join R l) ∧ (l <+: join R l) ∧ (join R l = R ∨ (join R l = l ∧ R <+: l)) := by
  unfold join
  by_cases hl : R.length < l.length
  · rw [if_pos hl]
    have : R <+: l := by
      rcases h with h | h
      · have := h.length_le; omega
      · exact h
    exact ⟨this, List.prefix_rfl, .inr ⟨rfl, this⟩⟩
  · rw [if_neg hl]
    refine ⟨List.prefix_rfl, ?_, .inl rfl⟩
    rcases h with h | h
    · exact h
    · have := h.eq_of_length_le (by omega); rw [this]; exact List.prefix_rfl

/-- The tail's new log: it and the row are of one line. -/
theorem RowOk.set_tail (r : RowOk A R) (g : Good (A.set i e l)) (hl : lastI (A.M e) = some (A.id i)) (u4 : ∀ a, A.U e (A.id i) = some a → a <+: l) :
    (l <+: R ∨ R <+: l) ∧ RowOk (A.set i e l) (join R l) := by
  have hUe : (A.set i e l).U e (A.id i) = some l := by show (if e = e ∧ A.id i = A.id i then some l else _) = _; simp
  have hUo : ∀ k t, ¬ (k = e ∧ t = A.id i) → (A.set i e l).U k t = A.U k t := fun k t hc => if_neg hc
  have cmp : l <+: R ∨ R <+: l := by
    rcases r.src with h | ⟨k, t, ht, hu⟩
    · rw [h]; exact .inr List.nil_prefix
    · rcases Nat.lt_trichotomy k e with h1 | h1 | h1
      · exact .inr (g.tails h1 ht ((hUo k t (by omega)).trans hu) hUe)
      · subst h1; rw [hl] at ht; cases ht; exact .inr (u4 R hu)
      · exact .inl (g.tails h1 hl hUe ((hUo k t (by omega)).trans hu))
  obtain ⟨j1, j2, j3⟩ := join_of cmp
  refine ⟨cmp, ?_, ?_⟩
  · intro k t x ht hu
    by_cases hc : k = e ∧ t = A.id i
    · obtain ⟨rfl, rfl⟩ := hc; rw [hUe] at hu; cases hu; exact j2
    · rw [hUo k t hc] at hu; exact (r.tails k t x ht hu).trans j1
  · rcases j3 with h1 | ⟨h1, h2⟩
    · rcases r.src with h | ⟨k, t, ht, hu⟩
      · exact .inl (by rw [h1]; exact h)
      · by_cases hc : k = e ∧ t = A.id i
        · obtain ⟨rfl, rfl⟩ := hc
          have h5 := u4 R hu
          have h6 : l <+: R := by rw [← h1]; exact j2
          have : R = l := h5.eq_of_length_le h6.length_le
          exact .inr ⟨k, A.id i, hl, by rw [hUe, h1, this]⟩
        · exact .inr ⟨k, t, ht, by rw [hUo k t hc, h1]; exact hu⟩
    · exact .inr ⟨e, A.id i, hl, by rw [hUe, h1]⟩
end set
end Go.Ch.Agr

/- Agreement: the abstract state of the law's world. -/
namespace Go.Ch
def Mem.id (m : Mem) : Agr.Id := (m.node, m.birth)
end Go.Ch
namespace Go.Ch.Agr
variable {C : Type}

theorem placeF_some {n : Nat} : ∀ {l : List Mem} {i q : Nat}, placeF n l i = some q → i ≤ q ∧ ∃ m, l[q - i]? = some m ∧ m.node = n
  | [], _, _, h => by cases h
  | m :: l, i, q, h => by
    unfold placeF at h
    by_cases hm : m.node = n
    · rw [if_pos hm] at h; cases h; exact ⟨Nat.le_refl _, m, by simp, hm⟩
    · rw [if_neg hm] at h
      obtain ⟨h1, m', h2, h3⟩ := placeF_some h
      refine ⟨by omega, m', ?_, h3⟩
      rw [show q - i = (q - (i + 1)) + 1 by omega, List.getElem?_cons_succ]; exact h2
theorem placeF_none {n : Nat} : ∀ {l : List Mem} {i : Nat}, placeF n l i = none → ∀ m ∈ l, m.node ≠ n
  | [], _, _, _, h => by cases h
  | m :: l, i, h, x, hx => by
    unfold placeF at h
    by_cases hm : m.node = n
    · rw [if_pos hm] at h; cases h
    · rw [if_neg hm] at h
      rcases List.mem_cons.mp hx with rfl | hx
      · exact hm
      · exact placeF_none h x hx
theorem place_some {l : List Mem} {n q : Nat} (h : place l n = some q) : ∃ m, l[q]? = some m ∧ m.node = n := by
  obtain ⟨_, m, h2, h3⟩ := placeF_some h; exact ⟨m, h2, h3⟩

def Nd.id (d : Nd) : Id := (d.self, d.birth)
/-- Where a member stands. -/
theorem Nd.view {d : Nd} {m : Mem} {L : List Id} (hL : d.cfg.chain.map Mem.id = L) (ho : One L) (hm : d.member = some m) :
    ∃ q, d.cfg.chain[q]? = some m ∧ m.id = Nd.id d ∧ L[q]? = some (Nd.id d) ∧
    (∀ x, d.ahead = some x → ∃ k, q = k + 1 ∧ L[k]? = some x.id) ∧ (∀ x, d.behind = some x → L[q + 1]? = some x.id) ∧
    (d.tail = true ↔ lastI L = some (Nd.id d)) ∧ (d.first = true → L[0]? = some (Nd.id d)) := by
  have hm0 := hm
  unfold Nd.member at hm
  cases hp : place d.cfg.chain d.self with
  | none => rw [hp] at hm; cases hm
  | some q =>
    rw [hp] at hm
    obtain ⟨m1, h1, h2⟩ := place_some hp
    have hq : memAt d.cfg.chain (some q) = some m1 := h1
    rw [hq] at hm
    simp only at hm
    by_cases hb : m1.birth = d.birth
    · rw [if_pos hb] at hm
      obtain rfl : m1 = m := Option.some.inj hm
      have hid : m1.id = Nd.id d := by unfold Mem.id Nd.id; rw [h2, hb]
      have hmap : ∀ k : Nat, L[k]? = (d.cfg.chain[k]?).map Mem.id := fun k => by rw [← hL, List.getElem?_map]
      have hLq : L[q]? = some (Nd.id d) := by rw [hmap, h1]; exact congrArg _ hid
      have isM : ∀ x, d.isM (some x) = true ↔ x.node = d.self := fun x => by
        unfold Nd.isM; rw [hm0]; simp
      refine ⟨q, h1, hid, hLq, ?_, ?_, ?_, ?_⟩
      · intro x hx
        unfold Nd.ahead aheadM at hx; rw [hp] at hx
        cases q with
        | zero => cases hx
        | succ k => exact ⟨k, rfl, by rw [hmap, show d.cfg.chain[k]? = some x from hx]; rfl⟩
      · intro x hx
        unfold Nd.behind behindM at hx; rw [hp] at hx
        rw [hmap, show d.cfg.chain[q + 1]? = some x from hx]; rfl
      · have hlen : L.length = d.cfg.chain.length := by rw [← hL, List.length_map]
        unfold Nd.tail lastM lastI
        rw [hlen, hmap]
        cases hx : d.cfg.chain[d.cfg.chain.length - 1]? with
        | none => simp [Nd.isM]
        | some x =>
          rw [isM]
          constructor
          · intro he
            have hLx : L[d.cfg.chain.length - 1]? = some x.id := by rw [hmap, hx]; rfl
            have := ho _ _ _ _ hLx hLq he
            rw [this] at hx; rw [h1] at hx; cases hx; exact congrArg _ hid
          · intro he
            have : x.id = Nd.id d := Option.some.inj he
            exact congrArg Prod.fst this
      · unfold Nd.first
        cases hx : d.cfg.chain[0]? with
        | none => simp [Nd.isM]
        | some x =>
          rw [isM]; intro he
          have hLx : L[0]? = some x.id := by rw [hmap, hx]; rfl
          have := ho _ _ _ _ hLx hLq he
          subst this; exact hLq
    · rw [if_neg hb] at hm; cases hm

def MsgR (A : St C) (r : Nat) (x : Msg C) : Prop := match x.body with
  | .entry k c => ∃ p a, p.1 = x.src ∧ A.U x.epoch p = some a ∧ 1 ≤ k ∧ a[k - 1]? = some c
  | .tail k => k ≤ r
  | .whole => True
  | .state f S => f ≤ r ∧ ∃ p z, p.1 = x.src ∧ z.1 = x.dst ∧ A.Say x.epoch p z S

structure CfgR (A : St C) (c : Cfg) : Prop where
  ids : c.chain.map Mem.id = A.M c.epoch
  ep : c.epoch ≤ A.E
  fl : ∀ m ∈ c.chain, m.whole = true → A.F c.epoch m.id
  ff : ∀ m ∈ c.chain, A.FF c.epoch m.id → m.whole = true

/-- A node and its disk, as the abstract state has them. -/
structure NdR (A : St C) (cs : List Cfg) (i : Nat) (d : Nd) (b : Box C) : Prop where
  self : d.self = i
  bir : d.birth = A.bir i
  cfg : d.cfg ∈ cs
  mem : d.member.isSome = true → A.ep i = d.cfg.epoch
  ep : b.epoch = A.ep i
  wh : b.whole = A.wh i
  lg : b.cmds = A.lg i

structure Rel (w : Wd C) (A : St C) : Prop where
  good : Good A
  row : RowOk A w.row
  nb : w.boxes.length = w.nds.length
  nr : w.births.length = w.nds.length
  bir : ∀ i, A.bir i = w.births.getD i 0
  far : ∀ i, w.nds.length ≤ i → A.ep i = 0 ∧ A.wh i = false ∧ A.lg i = []
  E : A.E = w.now.epoch
  now : w.now ∈ w.cfgs
  c0 : (⟨0, [], []⟩ : Cfg) ∈ w.cfgs
  cfg : ∀ c ∈ w.cfgs, CfgR A c
  node : ∀ e, ∀ x ∈ A.M e, x.1 < w.nds.length
  nd : ∀ i, i < w.nds.length → NdR A w.cfgs i (w.nd i) (w.box i)
  first : ∀ i, i < w.nds.length → (w.box i).first ≤ w.row.length
  bag : ∀ x ∈ w.bag, x.dst < w.nds.length ∧ MsgR A w.row.length x
  ok : w.ok = true

/-- What happens at one node. -/
structure Chg (A A' : St C) (i : Nat) : Prop where
  E : A'.E = A.E
  M : A'.M = A.M
  FF : A'.FF = A.FF
  F : A'.F = A.F
  bir : A'.bir = A.bir
  ep : ∀ j, j ≠ i → A'.ep j = A.ep j
  wh : ∀ j, j ≠ i → A'.wh j = A.wh j
  lg : ∀ j, j ≠ i → A'.lg j = A.lg j
  U : ∀ e x a, A.U e x = some a → ∃ a', A'.U e x = some a' ∧ a <+: a'
  Say : ∀ e p z S, A.Say e p z S → A'.Say e p z S
theorem Chg.refl {A : St C} {i : Nat} : Chg A A i := ⟨rfl, rfl, rfl, rfl, rfl, fun _ _ => rfl, fun _ _ => rfl, fun _ _ => rfl, fun _ _ a h => ⟨a, h, List.prefix_rfl⟩, fun _ _ _ _ h => h⟩
theorem Chg.trans {A B D : St C} {i : Nat} (h : Chg A B i) (k : Chg B D i) : Chg A D i where
  E := k.E.trans h.E
  M := k.M.trans h.M
  FF := k.FF.trans h.FF
  F := k.F.trans h.F
  bir := k.bir.trans h.bir
  ep j hj := (k.ep j hj).trans (h.ep j hj)
  wh j hj := (k.wh j hj).trans (h.wh j hj)
  lg j hj := (k.lg j hj).trans (h.lg j hj)
  U e x a hu := by
    obtain ⟨a1, h1, h2⟩ := h.U e x a hu
    obtain ⟨a2, h3, h4⟩ := k.U e x a1 h1
    exact ⟨a2, h3, h2.trans h4⟩
  Say e p z S hs := k.Say e p z S (h.Say e p z S hs)
theorem Chg.set {A : St C} {i e : Nat} {l : List C} (u4 : ∀ a, A.U e (A.id i) = some a → a <+: l) : Chg A (A.set i e l) i where
  E := rfl
  M := rfl
  FF := rfl
  F := rfl
  bir := rfl
  ep _ hj := if_neg hj
  wh _ hj := if_neg hj
  lg _ hj := if_neg hj
  U k x a hu := by
    show ∃ a', (if k = e ∧ x = A.id i then some l else A.U k x) = some a' ∧ _
    by_cases hc : k = e ∧ x = A.id i
    · rw [if_pos hc]; obtain ⟨rfl, rfl⟩ := hc; exact ⟨l, rfl, u4 a hu⟩
    · rw [if_neg hc]; exact ⟨a, hu, List.prefix_rfl⟩
  Say _ _ _ _ h := h
theorem Chg.idle {A : St C} {i e : Nat} : Chg A (A.idle i e) i :=
  ⟨rfl, rfl, rfl, rfl, rfl, fun _ hj => if_neg hj, fun _ hj => if_neg hj, fun _ _ => rfl, fun _ _ a h => ⟨a, h, List.prefix_rfl⟩, fun _ _ _ _ h => h⟩
theorem Chg.say {A : St C} {i e : Nat} {p z : Id} {S : List C} : Chg A (A.say e p z S) i :=
  ⟨rfl, rfl, rfl, rfl, rfl, fun _ _ => rfl, fun _ _ => rfl, fun _ _ => rfl, fun _ _ a h => ⟨a, h, List.prefix_rfl⟩, fun _ _ _ _ h => .inl h⟩

theorem MsgR.mono {A A' : St C} {r r' : Nat} {x : Msg C} (h : MsgR A r x) (hU : ∀ e x a, A.U e x = some a → ∃ a', A'.U e x = some a' ∧ a <+: a')
    (hS : ∀ e p z S, A.Say e p z S → A'.Say e p z S) (hr : r ≤ r') : MsgR A' r' x := by
  unfold MsgR at h ⊢
  cases hb : x.body with
  | entry k c =>
    rw [hb] at h; simp only at h ⊢
    obtain ⟨p, a, h1, h2, h3, h4⟩ := h
    obtain ⟨a', h5, h6⟩ := hU _ _ _ h2
    refine ⟨p, a', h1, h5, h3, ?_⟩
    obtain ⟨t, rfl⟩ := h6
    have := (List.getElem?_eq_some_iff.mp h4).1
    rw [List.getElem?_append_left this]; exact h4
  | tail k => rw [hb] at h; exact Nat.le_trans h hr
  | whole => trivial
  | state f S =>
    rw [hb] at h; simp only at h ⊢
    obtain ⟨h0, p, z, h1, h2, h3⟩ := h
    exact ⟨Nat.le_trans h0 hr, p, z, h1, h2, hS _ _ _ _ h3⟩
theorem CfgR.chg {A A' : St C} {i : Nat} {c : Cfg} (h : CfgR A c) (k : Chg A A' i) : CfgR A' c :=
  ⟨by rw [k.M]; exact h.ids, by rw [k.E]; exact h.ep, by rw [k.F]; exact h.fl, by rw [k.FF]; exact h.ff⟩

/-- What a node sends. -/
def MsR (A : St C) (n i r : Nat) (ms : List (Msg C)) : Prop := ∀ x ∈ ms, x.src = i ∧ x.dst < n ∧ x.dst ≠ i ∧ MsgR A r x
theorem MsR.ok {A : St C} {n i r : Nat} {ms : List (Msg C)} (h : MsR A n i r ms) : msOk n i ms = true := by
  unfold msOk; rw [List.all_eq_true]; intro x hx; obtain ⟨h1, h2, h3, _⟩ := h x hx; simp [h1, h2, h3]
theorem MsR.nil {A : St C} {n i r : Nat} : MsR A n i r [] := fun x hx => by cases hx
theorem MsR.app {A : St C} {n i r : Nat} {a b : List (Msg C)} (h : MsR A n i r a) (k : MsR A n i r b) : MsR A n i r (a ++ b) := fun x hx => by
  rcases List.mem_append.mp hx with hx | hx
  · exact h x hx
  · exact k x hx

theorem Rel.put [DecidableEq C] {w : Wd C} {A A' : St C} {i : Nat} {o : Out C} {R : List C} (h : Rel w A) (hi : i < w.nds.length) (g : Good A') (k : Chg A A' i)
    (nd : NdR A' w.cfgs i o.d o.b) (hc : comRow w.row o.cs = (R, true)) (hR : RowOk A' R) (hl : w.row.length ≤ R.length) (hf : o.b.first ≤ R.length)
    (ms : MsR A' w.nds.length i R.length o.ms) : Rel (w.put i o) A' := by
  have e1 : (w.put i o).row = R := by show (comRow w.row o.cs).1 = R; rw [hc]
  have e2 : (w.put i o).nds.length = w.nds.length := List.length_set
  have e3 : (w.put i o).cfgs = w.cfgs := rfl
  have e4 : ∀ j, j ≠ i → (w.put i o).nd j = w.nd j := fun j hj => by
    show (w.nds.set i o.d).getD j _ = w.nds.getD j _
    rw [List.getD_eq_getElem?_getD, List.getD_eq_getElem?_getD, List.getElem?_set_ne (fun h => hj h.symm)]
  have e5 : ∀ j, j ≠ i → (w.put i o).box j = w.box j := fun j hj => by
    show (w.boxes.set i o.b).getD j _ = w.boxes.getD j _
    rw [List.getD_eq_getElem?_getD, List.getD_eq_getElem?_getD, List.getElem?_set_ne (fun h => hj h.symm)]
  have e6 : (w.put i o).nd i = o.d := by
    show (w.nds.set i o.d).getD i _ = _
    rw [List.getD_eq_getElem?_getD, List.getElem?_set_self hi]; rfl
  have e7 : (w.put i o).box i = o.b := by
    show (w.boxes.set i o.b).getD i _ = _
    rw [List.getD_eq_getElem?_getD, List.getElem?_set_self (by rw [h.nb]; exact hi)]; rfl
  refine { good := g, row := by rw [e1]; exact hR, nb := ?_, nr := ?_, bir := ?_, far := ?_, E := ?_, now := h.now, c0 := h.c0, cfg := fun c hc => (h.cfg c hc).chg k, node := ?_, nd := ?_, first := ?_, bag := ?_, ok := ?_ }
  · rw [e2]; show (w.boxes.set i o.b).length = _; rw [List.length_set]; exact h.nb
  · rw [e2]; exact h.nr
  · rw [k.bir]; exact h.bir
  · intro j hj; rw [e2] at hj
    rw [k.ep j (by omega), k.wh j (by omega), k.lg j (by omega)]; exact h.far j hj
  · rw [k.E]; exact h.E
  · rw [e2, k.M]; exact h.node
  · intro j hj; rw [e2] at hj
    by_cases hji : j = i
    · subst hji; rw [e6, e7]; exact nd
    · rw [e4 j hji, e5 j hji]
      have := h.nd j hj
      exact ⟨this.self, by rw [k.bir]; exact this.bir, this.cfg, by rw [k.ep j hji]; exact this.mem, by rw [k.ep j hji]; exact this.ep, by rw [k.wh j hji]; exact this.wh, by rw [k.lg j hji]; exact this.lg⟩
  · intro j hj; rw [e2] at hj; rw [e1]
    by_cases hji : j = i
    · subst hji; rw [e7]; exact hf
    · rw [e5 j hji]; exact Nat.le_trans (h.first j hj) hl
  · intro x hx
    rw [e2, e1]
    have hx' : x ∈ w.bag ++ o.ms.take (400 - w.bag.length) := hx
    rcases List.mem_append.mp hx' with hx' | hx'
    · obtain ⟨h1, h2⟩ := h.bag x hx'
      exact ⟨h1, h2.mono k.U k.Say hl⟩
    · obtain ⟨_, h2, _, h4⟩ := ms x (List.mem_of_mem_take hx')
      exact ⟨h2, h4⟩
  · show (w.ok && msOk _ i o.ms && (comRow w.row o.cs).2) = true
    rw [hc, h.ok]
    have := ms.ok
    have e : (w.nds.set i o.d).length = w.nds.length := List.length_set
    simp only [Bool.true_and, Bool.and_true]
    rw [e]; exact this
end Go.Ch.Agr

/- Agreement: what a node does, and what it tells. -/
namespace Go.Ch.Agr
theorem prefix_get {C : Type} {l a : List C} {c : C} (h : l <+: a) (hc : a[l.length]? = some c) : l ++ [c] <+: a := by
  obtain ⟨t, rfl⟩ := h
  cases t with
  | nil => simp at hc
  | cons x t =>
    rw [List.getElem?_append_right (Nat.le_refl _), Nat.sub_self, List.getElem?_cons_zero] at hc
    cases hc; exact ⟨t, by simp⟩
section com
variable {C : Type} [DecidableEq C]
theorem comRow_one {row l : List C} {c : C} {ans : Bool} (h : l <+: row) (cmp : l ++ [c] <+: row ∨ row <+: l ++ [c]) :
    comRow row [⟨l.length + 1, c, ans⟩] = (join row (l ++ [c]), true) := by
  unfold comRow join
  have hlen := h.length_le
  have hll : (l ++ [c]).length = l.length + 1 := by simp
  by_cases he : l.length = row.length
  · have : l = row := h.eq_of_length he
    subst this
    rw [if_pos rfl, if_pos (by omega)]; rfl
  · rw [if_neg (by simp only; omega), if_neg (by omega)]
    have hp : l ++ [c] <+: row := by
      rcases cmp with k | k
      · exact k
      · have := k.length_le
        have := k.eq_of_length (by omega); rw [this]; exact List.prefix_rfl
    obtain ⟨t, rfl⟩ := hp
    have : ((l ++ [c]) ++ t)[l.length + 1 - 1]? = some c := by simp
    simp only [this]
    rw [if_pos ⟨by omega, trivial⟩]; rfl
theorem comRow_kept : ∀ (r : List C) (f : Nat) (row l : List C), l.drop f = r → f ≤ row.length → (l <+: row ∨ row <+: l) → comRow row (comsF (f + 1) r) = (join row l, true)
  | [], f, row, l, hd, hf, _ => by
    have : l.length ≤ f := by have := congrArg List.length hd; simp at this; omega
    unfold comsF comRow join; rw [if_neg (by omega)]
  | c :: r, f, row, l, hd, hf, cmp => by
    have hfl : f < l.length := by have := congrArg List.length hd; simp at this; omega
    have hc : l[f]? = some c := by
      have := congrArg (fun x => x[0]?) hd
      simpa using this
    have hd' : l.drop (f + 1) = r := by
      have := congrArg (List.drop 1) hd
      rw [List.drop_drop] at this; simpa using this
    unfold comsF comRow
    by_cases he : f = row.length
    · rw [if_pos (by simp only; omega)]
      have hp : row <+: l := by
        rcases cmp with k | k
        · have := k.length_le; omega
        · exact k
      have hp2 : row ++ [c] <+: l := prefix_get hp (by rw [← he]; exact hc)
      have := comRow_kept r (f + 1) (row ++ [c]) l hd' (by simp; omega) (.inr hp2)
      rw [this]
      unfold join
      have hl1 : (row ++ [c]).length = row.length + 1 := by simp
      by_cases h2 : (row ++ [c]).length < l.length
      · rw [if_pos h2, if_pos (by omega)]
      · rw [if_neg h2, if_pos (by omega), hp2.eq_of_length (by omega)]
    · rw [if_neg (by simp only; omega)]
      have hrc : row[f + 1 - 1]? = some c := by
        rw [Nat.add_sub_cancel]
        rcases cmp with k | k
        · obtain ⟨t, rfl⟩ := k; rw [List.getElem?_append_left hfl]; exact hc
        · obtain ⟨t, rfl⟩ := k; rw [List.getElem?_append_left (by omega)] at hc; exact hc
      simp only [hrc]
      rw [if_pos ⟨by omega, trivial⟩]
      exact comRow_kept r (f + 1) row l hd' (by omega) cmp
end com
variable {C : Type}

structure Sit (A : St C) (cs : List Cfg) (n i : Nat) (d : Nd) (b : Box C) (r : Nat) : Prop where
  good : Good A
  nd : NdR A cs i d b
  cfg : ∀ c ∈ cs, CfgR A c
  node : ∀ e, ∀ x ∈ A.M e, x.1 < n
  first : b.first ≤ r

section
variable {A : St C} {cs : List Cfg} {n i r : Nat} {d : Nd} {b : Box C} (s : Sit A cs n i d b r)
include s
theorem Sit.id : Nd.id d = A.id i := by unfold Nd.id St.id; rw [s.nd.self, s.nd.bir]
theorem Sit.view {m : Mem} (hm : d.member = some m) : ∃ q, A.ep i = d.cfg.epoch ∧ d.cfg.chain[q]? = some m ∧ m.id = A.id i ∧ (A.M (A.ep i))[q]? = some (A.id i) ∧
    (∀ x, d.ahead = some x → ∃ k, q = k + 1 ∧ (A.M (A.ep i))[k]? = some x.id) ∧ (∀ x, d.behind = some x → (A.M (A.ep i))[q + 1]? = some x.id) ∧
    (d.tail = true ↔ lastI (A.M (A.ep i)) = some (A.id i)) ∧ (d.first = true → (A.M (A.ep i))[0]? = some (A.id i)) := by
  have he := s.nd.mem (by rw [hm]; rfl)
  have := Nd.view (s.cfg _ s.nd.cfg).ids (s.good.one _) hm
  rw [s.id] at this
  obtain ⟨q, h⟩ := this
  rw [← he] at h; exact ⟨q, he, h⟩
theorem Sit.whole (hw : wholeB d b = true) : A.wh i = true ∧ (∃ m, d.member = some m) ∧ A.U (A.ep i) (A.id i) = some (A.lg i) := by
  unfold wholeB at hw
  cases hm : d.member with
  | none => rw [hm] at hw; cases hw
  | some m =>
    rw [hm] at hw; simp only [Bool.or_eq_true, Bool.and_eq_true, decide_eq_true_eq] at hw
    obtain ⟨q, he, hq, hid, _⟩ := s.view hm
    have hwh : A.wh i = true := by
      rcases hw with h | ⟨h, _⟩
      · have := (s.cfg _ s.nd.cfg).fl m (List.mem_of_getElem? hq) h
        rw [hid, ← he] at this; exact s.good.good i this
      · rw [← s.nd.wh]; exact h
    refine ⟨hwh, ⟨m, rfl⟩, ?_⟩
    have := s.good.tie i; rw [if_pos hwh] at this; exact this
theorem Sit.bare {m : Mem} (hm : d.member = some m) (hw : wholeB d b = false) : A.wh i = false := by
  obtain ⟨q, he, _⟩ := s.view hm
  unfold wholeB at hw; rw [hm] at hw
  simp only [Bool.or_eq_false_iff, Bool.and_eq_false_iff, decide_eq_false_iff_not] at hw
  rcases hw.2 with h | h
  · rw [← s.nd.wh]; exact h
  · exact absurd (s.nd.ep.trans he) h
theorem Sit.whole_of {m : Mem} (hm : d.member = some m) (hw : A.wh i = true) : wholeB d b = true := by
  cases h : wholeB d b with
  | true => rfl
  | false => rw [s.bare hm h] at hw; cases hw

theorem Sit.say {m : Mem} (hm : d.member = some m) {o : Option Mem} (ho : o = d.ahead ∨ o = d.behind) {y : Body C}
    (hy : ∀ x, o = some x → MsgR A r ⟨d.self, x.node, d.cfg.epoch, y⟩) : MsR A n i r (sayM d o y) := by
  intro x hx
  cases o with
  | none => cases hx
  | some x0 =>
    have hx' : x = ⟨d.self, x0.node, d.cfg.epoch, y⟩ := by simpa [sayM] using hx
    subst hx'
    obtain ⟨q, he, _, _, hq, ha, hb, _⟩ := s.view hm
    have : ∃ k, k ≠ q ∧ (A.M (A.ep i))[k]? = some x0.id := by
      rcases ho with ho | ho
      · obtain ⟨k, h1, h2⟩ := ha x0 ho.symm; exact ⟨k, by omega, h2⟩
      · exact ⟨q + 1, by omega, hb x0 ho.symm⟩
    obtain ⟨k, hk, hkx⟩ := this
    refine ⟨s.nd.self, s.node _ _ (List.mem_of_getElem? hkx), fun h => hk (s.good.one _ _ _ _ _ hkx hq h), hy x0 rfl⟩
theorem Sit.done {m : Mem} (hm : d.member = some m) {k : Nat} (hk : k ≤ r) : MsR A n i r (doneM d k) := s.say hm (.inl rfl) fun _ _ => hk

omit s in
theorem entriesF_get {m : Mem} {x : Msg C} : ∀ {k : Nat} {l : List C}, x ∈ entriesF d m k l → ∃ (j : Nat) (c : C), x = ⟨d.self, m.node, d.cfg.epoch, .entry (k + j) c⟩ ∧ l[j]? = some c
  | _, [], h => by cases h
  | k, c :: l, h => by
    rcases List.mem_cons.mp h with rfl | h
    · exact ⟨0, c, rfl, rfl⟩
    · obtain ⟨j, c', h1, h2⟩ := entriesF_get h
      exact ⟨j + 1, c', by rw [h1, show k + 1 + j = k + (j + 1) by omega], h2⟩

theorem Sit.chg {A' : St C} (k : Chg A A' i) (g : Good A') (he : A'.ep i = A.ep i) (hw : A'.wh i = A.wh i) (hl : A'.lg i = A.lg i) : Sit A' cs n i d b r :=
  ⟨g, ⟨s.nd.self, by rw [k.bir]; exact s.nd.bir, s.nd.cfg, by rw [he]; exact s.nd.mem, by rw [he]; exact s.nd.ep, by rw [hw]; exact s.nd.wh, by rw [hl]; exact s.nd.lg⟩,
    fun c hc => (s.cfg c hc).chg k, by rw [k.M]; exact s.node, s.first⟩

theorem Sit.beat : ∃ A2, Sit A2 cs n i d b r ∧ Chg A A2 i ∧ A2.U = A.U ∧ MsR A2 n i r (beatM d b) := by
  unfold beatM
  cases hb : d.behind with
  | none => exact ⟨A, s, .refl, rfl, .nil⟩
  | some m =>
    simp only
    by_cases hw : (d.has && wholeB d b) = true
    · rw [if_pos hw]
      rw [Bool.and_eq_true] at hw
      obtain ⟨hwh, ⟨m0, hm0⟩, hU⟩ := s.whole hw.2
      obtain ⟨q, he, _, _, hq, _, hbe, _⟩ := s.view hm0
      have hx := hbe m hb
      by_cases ht : (!m.whole && !d.told) = true
      · rw [if_pos ht]
        have hlt : Lt (A.M (A.ep i)) (A.id i) m.id := ⟨q, q + 1, by omega, hq, hx⟩
        refine ⟨A.say (A.ep i) (A.id i) m.id (A.lg i), s.chg .say (s.good.say hlt hU) rfl rfl rfl, .say, rfl, ?_⟩
        have s2 := s.chg .say (s.good.say hlt hU) rfl rfl rfl
        have := s2.say hm0 (o := d.behind) (y := .state b.first b.cmds) (.inr rfl) fun x hx => by
          rw [hb] at hx; cases hx
          show b.first ≤ r ∧ ∃ p z : Id, p.1 = d.self ∧ z.1 = m.node ∧ _
          exact ⟨s.first, A.id i, m.id, s.nd.self.symm, rfl, .inr ⟨he.symm, rfl, rfl, s.nd.lg⟩⟩
        rw [hb] at this; exact this
      · rw [if_neg ht]
        refine ⟨A, s, .refl, rfl, ?_⟩
        intro x hx
        obtain ⟨j, c, rfl, hc⟩ := entriesF_get hx
        have hj : b.cmds[b.first + j]? = some c := by
          rw [List.getElem?_take] at hc
          split at hc
          · rw [List.getElem?_drop] at hc; exact hc
          · cases hc
        have := s.say hm0 (o := d.behind) (y := .entry (b.first + 1 + j) c) (.inr rfl) fun x hx => by
          show ∃ (p : Id) (a : List C), p.1 = d.self ∧ A.U d.cfg.epoch p = some a ∧ _
          refine ⟨A.id i, A.lg i, s.nd.self.symm, by rw [← he]; exact hU, by omega, ?_⟩
          rw [← s.nd.lg, show b.first + 1 + j - 1 = b.first + j by omega]; exact hj
        rw [hb] at this; exact this _ (by simp [sayM])
    · rw [if_neg hw]; exact ⟨A, s, .refl, rfl, .nil⟩
end
end Go.Ch.Agr

/- Agreement: each operation of a node keeps the abstract state. -/
namespace Go.Ch.Agr
variable {C : Type}

/-- What an operation at a node leaves. -/
def Res [DecidableEq C] (row : List C) (A : St C) (cs : List Cfg) (n i : Nat) (o : Out C) : Prop :=
  ∃ A' R, Chg A A' i ∧ Sit A' cs n i o.d o.b R.length ∧ comRow row o.cs = (R, true) ∧ RowOk A' R ∧ row.length ≤ R.length ∧ MsR A' n i R.length o.ms

theorem MsR.up {A A' : St C} {n i r r' : Nat} {ms : List (Msg C)} (h : MsR A n i r ms) (k : Chg A A' i) (hr : r ≤ r') : MsR A' n i r' ms := fun x hx => by
  obtain ⟨h1, h2, h3, h4⟩ := h x hx; exact ⟨h1, h2, h3, h4.mono k.U k.Say hr⟩
theorem Sit.up {A : St C} {cs : List Cfg} {n i r r' : Nat} {d : Nd} {b : Box C} (s : Sit A cs n i d b r) (h : r ≤ r') : Sit A cs n i d b r' :=
  ⟨s.good, s.nd, s.cfg, s.node, Nat.le_trans s.first h⟩
theorem Sit.box {A : St C} {cs : List Cfg} {n i r r' : Nat} {d : Nd} {b b' : Box C} (s : Sit A cs n i d b r) (h1 : b'.epoch = b.epoch) (h2 : b'.whole = b.whole) (h3 : b'.cmds = b.cmds) (h4 : b'.first ≤ r') : Sit A cs n i d b' r' :=
  ⟨s.good, ⟨s.nd.self, s.nd.bir, s.nd.cfg, s.nd.mem, h1.trans s.nd.ep, h2.trans s.nd.wh, h3.trans s.nd.lg⟩, s.cfg, s.node, h4⟩
theorem trim_eq (b : Box C) (u : Nat) : (b.trim u).epoch = b.epoch ∧ (b.trim u).whole = b.whole ∧ (b.trim u).cmds = b.cmds ∧ ((b.trim u).first = b.first ∨ (b.trim u).first = min u b.cmds.length) := by
  unfold Box.trim; split
  · exact ⟨rfl, rfl, rfl, .inr rfl⟩
  · exact ⟨rfl, rfl, rfl, .inl rfl⟩
theorem Sit.trim {A : St C} {cs : List Cfg} {n i r r' : Nat} {d : Nd} {b : Box C} (s : Sit A cs n i d b r) {u : Nat} (hr : r ≤ r') (hu : min u b.cmds.length ≤ r') : Sit A cs n i d (b.trim u) r' := by
  obtain ⟨h1, h2, h3, h4⟩ := trim_eq b u
  refine s.box h1 h2 h3 ?_
  rcases h4 with h4 | h4
  · rw [h4]; exact Nat.le_trans s.first hr
  · rw [h4]; exact hu

theorem Sit.tailRow {A : St C} {cs : List Cfg} {n i : Nat} {d : Nd} {b : Box C} {row : List C} (s : Sit A cs n i d b row.length) (hr : RowOk A row) (hw : wholeB d b = true) (ht : d.tail = true) : A.lg i <+: row := by
  obtain ⟨_, ⟨m, hm⟩, hU⟩ := s.whole hw
  obtain ⟨q, _, _, _, _, _, _, htl, _⟩ := s.view hm
  exact hr.tails _ _ _ (htl.mp ht) hU

section
variable [DecidableEq C] {A : St C} {cs : List Cfg} {n i : Nat} {d : Nd} {b : Box C} {row : List C} (s : Sit A cs n i d b row.length) (hr : RowOk A row)
include s hr
theorem Sit.nothing {ms : List (Msg C)} (h : MsR A n i row.length ms) : Res row A cs n i ⟨d, b, ms, []⟩ :=
  ⟨A, row, .refl, s, rfl, hr, Nat.le_refl _, h⟩
/-- A command that is run. -/
theorem Sit.on (hw : wholeB d b = true) {c : C} {ans : Bool} (g : Good (A.set i (A.ep i) (A.lg i ++ [c]))) :
    Res row A cs n i (onM d (b.run c) (b.cmds.length + 1) c ans) := by
  obtain ⟨hwh, ⟨m, hm⟩, hU⟩ := s.whole hw
  obtain ⟨q, he, _, _, hq, _, _, htl, _⟩ := s.view hm
  have u4 : ∀ a, A.U (A.ep i) (A.id i) = some a → a <+: A.lg i ++ [c] := fun a ha => by
    rw [hU] at ha; cases ha; exact List.prefix_append _ _
  have ck : Chg A (A.set i (A.ep i) (A.lg i ++ [c])) i := .set u4
  have s1 : Sit (A.set i (A.ep i) (A.lg i ++ [c])) cs n i d (b.run c) row.length := by
    refine ⟨g, ⟨s.nd.self, s.nd.bir, s.nd.cfg, ?_, ?_, ?_, ?_⟩, fun c hc => (s.cfg c hc).chg ck, s.node, s.first⟩
    · intro h; show (if i = i then _ else _) = _; rw [if_pos rfl]; exact s.nd.mem h
    · show b.epoch = if i = i then _ else _; rw [if_pos rfl]; exact s.nd.ep
    · show b.whole = if i = i then _ else _; rw [if_pos rfl, s.nd.wh]; exact hwh
    · show b.cmds ++ [c] = if i = i then _ else _; rw [if_pos rfl, s.nd.lg]
  have hll : b.cmds = A.lg i := s.nd.lg
  unfold onM
  by_cases ht : d.tail = true
  · rw [if_pos ht]
    have hl := htl.mp ht
    obtain ⟨cmp, hR⟩ := hr.set_tail g hl u4
    have hp := s.tailRow hr hw ht
    obtain ⟨j1, j2, _⟩ := join_of cmp
    refine ⟨_, join row (A.lg i ++ [c]), ck, ?_, ?_, hR, j1.length_le, ?_⟩
    · refine s1.trim j1.length_le ?_
      have := j2.length_le
      show min _ (b.cmds ++ [c]).length ≤ _
      rw [hll]; simp at this ⊢; omega
    · rw [hll]; exact comRow_one hp cmp
    · refine (s1.up j1.length_le).done hm ?_
      have := j2.length_le
      rw [hll]; simp at this; exact this
  · rw [if_neg ht]
    refine ⟨_, row, ck, s1, rfl, hr.set_other (fun h => ht (htl.mpr h)), Nat.le_refl _, ?_⟩
    cases hb : d.behind with
    | none => exact .nil
    | some m' =>
      simp only
      split
      · rw [← hb]
        refine s1.say hm (.inr rfl) fun x _ => ?_
        show ∃ (p : Id) (a : List C), p.1 = d.self ∧ (if d.cfg.epoch = A.ep i ∧ p = A.id i then some (A.lg i ++ [c]) else A.U d.cfg.epoch p) = some a ∧ _
        refine ⟨A.id i, A.lg i ++ [c], s.nd.self.symm, by rw [if_pos ⟨he.symm, rfl⟩], by omega, ?_⟩
        rw [hll]; simp
      · exact .nil

omit s hr in
/-- What was kept is committed, where it is the tail. -/
theorem Sit.kept {A1 : St C} {d1 : Nd} {b1 : Box C} (ck : Chg A A1 i) (s1 : Sit A1 cs n i d1 b1 row.length) (cmp : A1.lg i <+: row ∨ row <+: A1.lg i) (hR : RowOk A1 (join row (A1.lg i))) {ms : List (Msg C)}
    (hm : MsR A1 n i (join row (A1.lg i)).length ms) : Res row A cs n i ⟨d1, keptB b1, ms, keptC b1⟩ := by
  obtain ⟨j1, j2, _⟩ := join_of cmp
  refine ⟨A1, join row (A1.lg i), ck, ?_, ?_, hR, j1.length_le, hm⟩
  · refine s1.trim j1.length_le ?_
    have := j2.length_le
    rw [s1.nd.lg]; omega
  · unfold keptC; exact comRow_kept _ _ _ _ (by rw [s1.nd.lg]) s1.first cmp

theorem Sit.submit {c : C} : Res row A cs n i (subM d b c) := by
  unfold subM
  by_cases ht : takes d b = true
  · rw [if_pos ht]
    unfold takes headB at ht
    rw [Bool.and_eq_true, Bool.and_eq_true] at ht
    have hw := ht.1.2
    obtain ⟨hwh, ⟨m, hm⟩, hU⟩ := s.whole hw
    obtain ⟨q, he, _, _, hq, _, _, _, hf⟩ := s.view hm
    exact s.on hr hw (s.good.head hwh (List.prefix_append _ _) (hf ht.1.1))
  · rw [if_neg ht]; exact s.nothing hr .nil

theorem Sit.entry {k src : Nat} {c : C} (hk : 1 ≤ k) (hfr : fromM d.ahead src = true) (hx : ∃ (p : Id) (a : List C), p.1 = src ∧ A.U d.cfg.epoch p = some a ∧ a[k - 1]? = some c) : Res row A cs n i (entryM d b k c) := by
  unfold entryM
  by_cases h1 : (!wholeB d b || decide (b.cmds.length + 1 < k)) = true
  · rw [if_pos h1]; exact s.nothing hr .nil
  rw [if_neg h1]
  have hw : wholeB d b = true := by
    cases h : wholeB d b with
    | true => rfl
    | false => rw [h] at h1; simp at h1
  have hk2 : k ≤ b.cmds.length + 1 := by
    rw [hw] at h1; simp at h1; omega
  obtain ⟨hwh, ⟨m, hm⟩, hU⟩ := s.whole hw
  obtain ⟨q, he, _, _, hq, ha, _, _, _⟩ := s.view hm
  by_cases h2 : k ≤ b.cmds.length
  · rw [if_pos h2]
    by_cases h3 : d.tail = true
    · rw [if_pos h3]
      refine s.nothing hr (s.done hm ?_)
      rw [s.nd.lg]; exact (s.tailRow hr hw h3).length_le
    · rw [if_neg h3]; split
      · exact s.nothing hr (s.done hm s.first)
      · exact s.nothing hr .nil
  · rw [if_neg h2]; split
    · exact s.nothing hr .nil
    · have hke : k = b.cmds.length + 1 := by omega
      subst hke
      refine s.on hr hw ?_
      obtain ⟨p, a, hp1, hpa, hac⟩ := hx
      rw [← he] at hpa
      unfold fromM at hfr
      cases hah : d.ahead with
      | none => rw [hah] at hfr; cases hfr
      | some mp =>
        rw [hah] at hfr
        have hsrc : src = mp.node := by simpa using hfr
        obtain ⟨k', hk', hkx⟩ := ha mp hah
        have hpe : p = mp.id := (s.good.one _).same (s.good.mem _ _ _ hpa) (List.mem_of_getElem? hkx) (hp1.trans hsrc)
        subst hpe; subst hk'
        have hw1 := s.good.within _ _ _ _ _ ⟨k', k' + 1, by omega, hkx, hq⟩ hpa hU
        refine s.good.next hwh (List.prefix_append _ _) hkx hq hpa (prefix_get hw1 ?_)
        rw [← s.nd.lg]; simpa using hac

theorem Sit.state {f src : Nat} {l : List C} {m : Mem} (hm : d.member = some m) (hfl : f ≤ row.length) (hfr : fromM d.ahead src = true) (hx : ∃ p z : Id, p.1 = src ∧ z.1 = d.self ∧ A.Say d.cfg.epoch p z l) :
    Res row A cs n i (stateM d b f l) := by
  unfold stateM
  by_cases hw : wholeB d b = true
  · rw [if_pos hw]
    refine s.nothing hr (.app (s.say hm (.inl rfl) fun _ _ => trivial) ?_)
    split
    · rename_i ht
      refine s.done hm ?_
      rw [s.nd.lg]; exact (s.tailRow hr hw ht).length_le
    · exact .nil
  rw [if_neg hw]; split
  · exact s.nothing hr .nil
  have hw' : wholeB d b = false := by cases h : wholeB d b with | true => exact absurd h hw | false => rfl
  have hwh := s.bare hm hw'
  obtain ⟨q, he, _, _, hq, ha, _, htl, _⟩ := s.view hm
  obtain ⟨p, z, hp1, hz1, hsay⟩ := hx
  rw [← he] at hsay
  unfold fromM at hfr
  cases hah : d.ahead with
  | none => rw [hah] at hfr; cases hfr
  | some mp =>
    rw [hah] at hfr
    have hsrc : src = mp.node := by simpa using hfr
    obtain ⟨k', hk', hkx⟩ := ha mp hah
    have hlt := s.good.sayL _ _ _ _ hsay
    have hpe : p = mp.id := (s.good.one _).same hlt.mem1 (List.mem_of_getElem? hkx) (hp1.trans hsrc)
    have hze : z = A.id i := (s.good.one _).same hlt.mem2 (List.mem_of_getElem? hq) (hz1.trans s.nd.self)
    subst hpe; subst hk'; subst hze
    have g := s.good.load hkx hq hwh hsay
    have hU : A.U (A.ep i) (A.id i) = none := by have := s.good.tie i; rw [hwh] at this; simpa using this
    have u4 : ∀ a, A.U (A.ep i) (A.id i) = some a → a <+: l := fun a ha => by rw [hU] at ha; cases ha
    have ck : Chg A (A.set i (A.ep i) l) i := .set u4
    have s1 : Sit (A.set i (A.ep i) l) cs n i d ((b.load f l).mark d.cfg.epoch true) row.length := by
      refine ⟨g, ⟨s.nd.self, s.nd.bir, s.nd.cfg, ?_, ?_, ?_, ?_⟩, fun c hc => (s.cfg c hc).chg ck, s.node, hfl⟩
      · intro h; show (if i = i then _ else _) = _; rw [if_pos rfl]; exact s.nd.mem h
      · show d.cfg.epoch = if i = i then _ else _; rw [if_pos rfl]; exact he.symm
      · show true = if i = i then _ else _; rw [if_pos rfl]
      · show l = if i = i then _ else _; rw [if_pos rfl]
    have hlg : (A.set i (A.ep i) l).lg i = l := if_pos rfl
    rw [← hah]
    simp only
    by_cases ht : d.tail = true
    · rw [if_pos ht]
      obtain ⟨cmp, hR⟩ := hr.set_tail g (htl.mp ht) u4
      obtain ⟨j1, j2, _⟩ := join_of cmp
      refine Sit.kept ck s1 (by rw [hlg]; exact cmp) (by rw [hlg]; exact hR) ?_
      rw [hlg]
      exact .app ((s1.up j1.length_le).say hm (.inl rfl) fun _ _ => trivial) ((s1.up j1.length_le).done hm j2.length_le)
    · rw [if_neg ht]
      exact ⟨_, row, ck, s1, rfl, hr.set_other (fun h => ht (htl.mpr h)), Nat.le_refl _, s1.say hm (.inl rfl) fun _ _ => trivial⟩

theorem Sit.recv {x : Msg C} (hx : MsgR A row.length x) : Res row A cs n i (recvM d b x) := by
  unfold recvM
  by_cases h0 : (!decide (x.dst = d.self) || !d.has || !decide (x.epoch = d.cfg.epoch) || !d.member.isSome) = true
  · rw [if_pos h0]; exact s.nothing hr .nil
  rw [if_neg h0]
  have h1 : x.dst = d.self ∧ x.epoch = d.cfg.epoch ∧ d.member.isSome = true := by
    simp at h0; exact ⟨h0.1.1.1, h0.1.2, Option.isSome_iff_ne_none.mpr h0.2⟩
  obtain ⟨hd, he, hm⟩ := h1
  cases hmm : d.member with
  | none => rw [hmm] at hm; cases hm
  | some m =>
    unfold MsgR at hx
    cases hb : x.body with
    | entry k c =>
      rw [hb] at hx; simp only at hx ⊢
      obtain ⟨p, a, h1, h2, h3, h4⟩ := hx
      split
      · rename_i hf; exact s.entry hr h3 hf ⟨p, a, h1, by rw [← he]; exact h2, h4⟩
      · exact s.nothing hr .nil
    | state f l =>
      rw [hb] at hx; simp only at hx ⊢
      obtain ⟨hfl, p, z, h1, h2, h3⟩ := hx
      split
      · rename_i hf; exact s.state hr hmm hfl hf ⟨p, z, h1, h2.trans hd, by rw [← he]; exact h3⟩
      · exact s.nothing hr .nil
    | tail k =>
      rw [hb] at hx; simp only at hx ⊢
      split
      · refine ⟨A, row, .refl, s.trim (Nat.le_refl _) (by omega), rfl, hr, Nat.le_refl _, s.done hmm hx⟩
      · exact s.nothing hr .nil
    | whole =>
      simp only
      split
      · exact ⟨A, row, .refl, ⟨s.good, ⟨s.nd.self, s.nd.bir, s.nd.cfg, s.nd.mem, s.nd.ep, s.nd.wh, s.nd.lg⟩, s.cfg, s.node, s.first⟩, rfl, hr, Nat.le_refl _, .nil⟩
      · exact s.nothing hr .nil
end
end Go.Ch.Agr

/- Agreement: a configuration that is heard; the world's moves at nodes. -/
namespace Go.Ch
namespace Wd
variable {C : Type}
/-- A disk is lost; a message is doubled; a disk is full, or no more. -/
def lose (w : Wd C) (i : Nat) : Wd C := ({ w with births := w.births.set i (w.births.getD i 0 + 1), boxes := w.boxes.set i Box.new } : Wd C).anew i
def dup (w : Wd C) (n : Nat) : Wd C := match w.bag[n]? with | none => w | some x => { w with bag := w.bag ++ [x] }
def flip (w : Wd C) (i : Nat) : Wd C := { w with boxes := w.boxes.set i { w.box i with full := !(w.box i).full } }
end Wd
end Go.Ch
namespace Go.Ch.Agr
variable {C : Type} [DecidableEq C]
section
variable {A : St C} {cs : List Cfg} {n i : Nat} {d : Nd} {b : Box C} {row : List C}

theorem Res.beat {cm : List (Com C)} (h : Res row A cs n i ⟨d, b, [], cm⟩) : Res row A cs n i ⟨d, b, beatM d b, cm⟩ := by
  obtain ⟨A1, R, k, s, hc, hR, hl, _⟩ := h
  obtain ⟨A2, s2, k2, hU, hm⟩ := s.beat
  exact ⟨A2, R, k.trans k2, s2, hc, hR.same (fun _ _ _ _ => by rw [k2.M]) hU, hl, hm⟩

omit [DecidableEq C] in
theorem join_row {row l : List C} (h : l <+: row) : join row l = row := by
  have := h.length_le
  unfold join; rw [if_neg (by omega)]

omit [DecidableEq C] in
theorem Sit.conf1 (s : Sit A cs n i d b row.length) (hr : RowOk A row) {c : Cfg} (hc : c ∈ cs) (hst : ¬ stale d b c = true) :
    ∃ A1, Chg A A1 i ∧ Sit A1 cs n i (nextD d c) (markB d b c) row.length ∧ A1.lg i = A.lg i ∧
      ((nextD d c).tail = true → wholeB (nextD d c) (markB d b c) = true → (A1.lg i <+: row ∨ row <+: A1.lg i) ∧ RowOk A1 (join row (A1.lg i))) ∧
      (¬ ((nextD d c).tail = true ∧ wholeB (nextD d c) (markB d b c) = true) → RowOk A1 row) := by
  have hep : b.epoch ≤ c.epoch := by
    unfold stale at hst; simp at hst; omega
  unfold markB
  cases hm : (nextD d c).member with
  | none =>
    have hw : ∀ b' : Box C, wholeB (nextD d c) b' = false := fun b' => by unfold wholeB; rw [hm]
    refine ⟨A, .refl, ⟨s.good, ⟨s.nd.self, s.nd.bir, hc, fun h => ?_, s.nd.ep, s.nd.wh, s.nd.lg⟩, s.cfg, s.node, s.first⟩, rfl, fun _ h => ?_, fun _ => hr⟩
    · rw [hm] at h; cases h
    · simp only [hw] at h; cases h
  | some m =>
    have hcr := s.cfg c hc
    obtain ⟨q, hq, hid, hLq, _, _, htl, _⟩ := Nd.view (d := nextD d c) hcr.ids (s.good.one _) hm
    have hidd : Nd.id (nextD d c) = A.id i := s.id
    rw [hidd] at hid hLq htl
    have hmem := List.mem_of_getElem? hLq
    have hmc := List.mem_of_getElem? hq
    simp only
    by_cases hlt : b.epoch < c.epoch
    · rw [if_pos hlt]
      have hlt' : A.ep i < c.epoch := by rw [← s.nd.ep]; exact hlt
      have hlate : A.F c.epoch (A.id i) → A.FF c.epoch (A.id i) := fun h => by
        rcases s.good.late _ _ h with h | h
        · omega
        · exact h
      cases hw : m.whole with
      | true =>
        have hF := hlate (by have := hcr.fl m hmc hw; rw [hid] at this; exact this)
        have g := s.good.come hlt' hF
        have u4 : ∀ a, A.U c.epoch (A.id i) = some a → a <+: A.lg i := fun a ha => by rw [s.good.fut i _ hlt'] at ha; cases ha
        have ck : Chg A (A.set i c.epoch (A.lg i)) i := .set u4
        have hlg : (A.set i c.epoch (A.lg i)).lg i = A.lg i := if_pos rfl
        have s1 : Sit (A.set i c.epoch (A.lg i)) cs n i (nextD d c) (b.mark c.epoch true) row.length := by
          refine ⟨g, ⟨s.nd.self, s.nd.bir, hc, fun _ => if_pos rfl, (if_pos rfl).symm, (if_pos rfl).symm, ?_⟩, fun c hc => (s.cfg c hc).chg ck, s.node, s.first⟩
          rw [hlg]; exact s.nd.lg
        refine ⟨_, ck, s1, hlg, fun ht _ => ?_, fun hn => ?_⟩
        · rw [hlg]; exact hr.set_tail g (htl.mp ht) u4
        · refine hr.set_other fun h => hn ⟨htl.mpr h, s1.whole_of hm (if_pos rfl)⟩
      | false =>
        have hnF : ¬ A.F c.epoch (A.id i) := fun h => by
          have := hcr.ff m hmc (by rw [hid]; exact hlate h)
          rw [hw] at this; cases this
        have g := s.good.idle hlt' hmem hnF
        have ck : Chg A (A.idle i c.epoch) i := .idle
        have s1 : Sit (A.idle i c.epoch) cs n i (nextD d c) (b.mark c.epoch false) row.length :=
          ⟨g, ⟨s.nd.self, s.nd.bir, hc, fun _ => if_pos rfl, (if_pos rfl).symm, (if_pos rfl).symm, s.nd.lg⟩, fun c hc => (s.cfg c hc).chg ck, s.node, s.first⟩
        refine ⟨_, ck, s1, rfl, fun _ h => ?_, fun _ => hr.same (fun _ _ _ _ => rfl) rfl⟩
        have := (s1.whole h).1
        rw [show (A.idle i c.epoch).wh i = false from if_pos rfl] at this; cases this
    · rw [if_neg hlt]
      have hee : b.epoch = c.epoch := by omega
      have s1 : Sit A cs n i (nextD d c) b row.length :=
        ⟨s.good, ⟨s.nd.self, s.nd.bir, hc, fun _ => s.nd.ep.symm.trans hee, s.nd.ep, s.nd.wh, s.nd.lg⟩, s.cfg, s.node, s.first⟩
      refine ⟨A, .refl, s1, rfl, fun ht hw => ?_, fun _ => hr⟩
      have hp := s1.tailRow hr hw ht
      exact ⟨.inl hp, by rw [join_row hp]; exact hr⟩

theorem Sit.conf (s : Sit A cs n i d b row.length) (hr : RowOk A row) {c : Cfg} (hc : c ∈ cs) : Res row A cs n i (confM d b c) := by
  unfold confM
  by_cases h1 : stale d b c = true
  · rw [if_pos h1]; exact s.nothing hr .nil
  rw [if_neg h1]; split
  · exact s.nothing hr .nil
  obtain ⟨A1, ck, s1, hlg, h2, h3⟩ := s.conf1 hr hc h1
  simp only
  split
  · rename_i h4
    rw [Bool.and_eq_true, Bool.and_eq_true] at h4
    obtain ⟨cmp, hR⟩ := h2 h4.1.1 h4.1.2
    exact (Sit.kept ck s1 cmp hR .nil).beat
  · rename_i h4
    refine Res.beat ⟨A1, row, ck, s1, rfl, ?_, Nat.le_refl _, .nil⟩
    by_cases h5 : (nextD d c).tail = true ∧ wholeB (nextD d c) (markB d b c) = true
    · obtain ⟨cmp, hR⟩ := h2 h5.1 h5.2
      rw [h5.1, h5.2] at h4
      have hwas : (d.has && d.tail && wholeB d b) = true := by
        cases hh : (d.has && d.tail && wholeB d b) with
        | true => rfl
        | false => rw [hh] at h4; simp at h4
      rw [Bool.and_eq_true, Bool.and_eq_true] at hwas
      have hp := s.tailRow hr hwas.2 hwas.1.2
      rw [← hlg] at hp
      rw [join_row hp] at hR; exact hR
    · exact h3 h5
end

def Inv (w : Wd C) : Prop := ∃ A, Rel w A

section
variable {w : Wd C} {A : St C} {i : Nat}
omit [DecidableEq C] in
theorem Rel.sit (h : Rel w A) (hi : i < w.nds.length) : Sit A w.cfgs w.nds.length i (w.nd i) (w.box i) w.row.length :=
  ⟨h.good, h.nd i hi, h.cfg, h.node, h.first i hi⟩
theorem Rel.res (h : Rel w A) (hi : i < w.nds.length) {o : Out C} (r : Res w.row A w.cfgs w.nds.length i o) : Inv (w.put i o) := by
  obtain ⟨A', R, k, s, hc, hR, hl, hm⟩ := r
  exact ⟨A', h.put hi s.good k s.nd hc hR hl s.first hm⟩
theorem Inv.submit (h : Inv w) (hi : i < w.nds.length) (c : C) : Inv (w.submit i c) := by
  obtain ⟨A, h⟩ := h; exact h.res hi ((h.sit hi).submit h.row)
theorem Inv.configure (h : Inv w) (hi : i < w.nds.length) (n : Nat) : Inv (w.configure i n) := by
  obtain ⟨A, h⟩ := h
  refine h.res hi ((h.sit hi).conf h.row ?_)
  rw [List.getD_eq_getElem?_getD]
  cases hx : w.cfgs[n]? with
  | none => exact h.c0
  | some c => exact List.mem_of_getElem? hx
omit [DecidableEq C] in
theorem Rel.rebag (h : Rel w A) {bag : List (Msg C)} (hb : ∀ x ∈ bag, x ∈ w.bag) : Rel { w with bag := bag } A :=
  ⟨h.good, h.row, h.nb, h.nr, h.bir, h.far, h.E, h.now, h.c0, h.cfg, h.node, h.nd, h.first, fun x hx => h.bag x (hb x hx), h.ok⟩
omit [DecidableEq C] in
theorem Rel.dropped (h : Rel w A) (n : Nat) : Rel (w.drop n) A := h.rebag fun x hx => by
  rcases List.mem_append.mp hx with hx | hx
  · exact List.mem_of_mem_take hx
  · exact List.mem_of_mem_drop hx
omit [DecidableEq C] in
theorem Inv.drop (h : Inv w) (n : Nat) : Inv (w.drop n) := by
  obtain ⟨A, h⟩ := h; exact ⟨A, h.dropped n⟩
omit [DecidableEq C] in
theorem Inv.dup (h : Inv w) (n : Nat) : Inv (w.dup n) := by
  obtain ⟨A, h⟩ := h
  unfold Wd.dup
  cases hx : w.bag[n]? with
  | none => exact ⟨A, h⟩
  | some x =>
    refine ⟨A, h.rebag fun y hy => ?_⟩
    rcases List.mem_append.mp hy with hy | hy
    · exact hy
    · rw [List.mem_singleton.mp hy]; exact List.mem_of_getElem? hx
theorem Inv.deliver (h : Inv w) (n : Nat) : Inv (w.deliver n) := by
  obtain ⟨A, h⟩ := h
  unfold Wd.deliver
  cases hx : w.bag[n]? with
  | none => exact ⟨A, h⟩
  | some x =>
    obtain ⟨h1, h2⟩ := h.bag x (List.mem_of_getElem? hx)
    have h' := h.dropped n
    exact h'.res h1 ((h'.sit h1).recv h'.row h2)
omit [DecidableEq C] in
theorem set_getD {α : Type} {l : List α} {i : Nat} (hi : i < l.length) (x : α) : l.set i (l.getD i x) = l := by
  rw [List.getD_eq_getElem?_getD, List.getElem?_eq_getElem hi]; simp
theorem put_self (hn : i < w.nds.length) (hb : i < w.boxes.length) (ms : List (Msg C)) (cm : List (Com C)) : w.put i ⟨w.nd i, w.box i, ms, cm⟩ = w.told i ms cm := by
  unfold Wd.put Wd.nd Wd.box
  simp only [set_getD hn, set_getD hb]
theorem Inv.beat (h : Inv w) (hi : i < w.nds.length) : Inv (w.beat i) := by
  obtain ⟨A, h⟩ := h
  unfold Wd.beat
  rw [← put_self hi (by rw [h.nb]; exact hi)]
  exact h.res hi ((h.sit hi).nothing h.row .nil).beat
end
end Go.Ch.Agr

/- Agreement: nodes that begin anew, lost disks, the master's commands; what holds. -/
namespace Go.Ch.Agr
variable {C : Type}
section
variable {w : Wd C} {A : St C} {i : Nat}

theorem newD_member (i birth : Nat) : (newD i birth).member = none := rfl
theorem nd_set {w : Wd C} {i j : Nat} {d : Nd} (hi : i < w.nds.length) : (w.nds.set i d).getD j (newD j 0) = if j = i then d else w.nd j := by
  rw [List.getD_eq_getElem?_getD]
  by_cases hj : j = i
  · subst hj; rw [if_pos rfl, List.getElem?_set_self hi]; rfl
  · rw [if_neg hj, List.getElem?_set_ne (fun h => hj h.symm), ← List.getD_eq_getElem?_getD]; rfl
theorem Rel.anew (h : Rel w A) (hi : i < w.nds.length) : Rel (w.anew i) A := by
  have e2 : (w.anew i).nds.length = w.nds.length := List.length_set
  refine { good := h.good, row := h.row, nb := by rw [e2]; exact h.nb, nr := by rw [e2]; exact h.nr, bir := h.bir, far := by rw [e2]; exact h.far, E := h.E, now := h.now, c0 := h.c0, cfg := h.cfg, node := by rw [e2]; exact h.node, nd := ?_, first := by rw [e2]; exact h.first, bag := by rw [e2]; exact h.bag, ok := h.ok }
  intro j hj; rw [e2] at hj
  have e : (w.anew i).nd j = if j = i then newD i (w.births.getD i 0) else w.nd j := nd_set hi
  rw [e]
  by_cases hji : j = i
  · subst hji; rw [if_pos rfl]
    have := h.nd j hj
    exact ⟨rfl, (h.bir j).symm, h.c0, fun hm => (by rw [newD_member] at hm; cases hm), this.ep, this.wh, this.lg⟩
  · rw [if_neg hji]; exact h.nd j hj

theorem Rel.lose (h : Rel w A) (hi : i < w.nds.length) : Rel (w.lose i) (A.lose i) := by
  have e2 : (w.lose i).nds.length = w.nds.length := List.length_set
  have hb : ∀ j, (w.lose i).box j = if j = i then Box.new else w.box j := fun j => by
    show (w.boxes.set i Box.new).getD j _ = _
    rw [List.getD_eq_getElem?_getD]
    by_cases hj : j = i
    · subst hj; rw [if_pos rfl, List.getElem?_set_self (by rw [h.nb]; exact hi)]; rfl
    · rw [if_neg hj, List.getElem?_set_ne (fun h => hj h.symm), ← List.getD_eq_getElem?_getD]; rfl
  have hbi : ∀ j, (w.lose i).births.getD j 0 = if j = i then w.births.getD i 0 + 1 else w.births.getD j 0 := fun j => by
    show (w.births.set i _).getD j _ = _
    rw [List.getD_eq_getElem?_getD]
    by_cases hj : j = i
    · subst hj; rw [if_pos rfl, List.getElem?_set_self (by rw [h.nr]; exact hi)]; rfl
    · rw [if_neg hj, List.getElem?_set_ne (fun h => hj h.symm), ← List.getD_eq_getElem?_getD]
  have hbir : ∀ j, (A.lose i).bir j = (w.lose i).births.getD j 0 := fun j => by
    rw [hbi]; show (if j = i then A.bir i + 1 else A.bir j) = _
    rw [h.bir i, h.bir j]
  refine { good := h.good.lose, row := h.row.same (fun _ _ _ _ => rfl) rfl, nb := ?_, nr := ?_, bir := hbir, far := ?_, E := h.E, now := h.now, c0 := h.c0, cfg := fun c hc => ⟨(h.cfg c hc).ids, (h.cfg c hc).ep, (h.cfg c hc).fl, (h.cfg c hc).ff⟩, node := by rw [e2]; exact h.node, nd := ?_, first := ?_, bag := by rw [e2]; exact h.bag, ok := h.ok }
  · rw [e2]; show (w.boxes.set i Box.new).length = _; rw [List.length_set]; exact h.nb
  · rw [e2]; show (w.births.set i _).length = _; rw [List.length_set]; exact h.nr
  · intro j hj; rw [e2] at hj
    have := h.far j hj
    have hne : j ≠ i := by omega
    exact ⟨(if_neg hne).trans this.1, (if_neg hne).trans this.2.1, (if_neg hne).trans this.2.2⟩
  · intro j hj; rw [e2] at hj
    have e : (w.lose i).nd j = if j = i then newD i ((w.births.set i (w.births.getD i 0 + 1)).getD i 0) else w.nd j := nd_set hi
    rw [e, hb]
    by_cases hji : j = i
    · subst hji; rw [if_pos rfl, if_pos rfl]
      exact ⟨rfl, (hbir j).symm, h.c0, fun hm => (by rw [newD_member] at hm; cases hm), (if_pos rfl).symm, (if_pos rfl).symm, (if_pos rfl).symm⟩
    · rw [if_neg hji, if_neg hji]
      have := h.nd j hj
      exact ⟨this.self, this.bir.trans (if_neg hji).symm, this.cfg, fun hm => (if_neg hji).trans (this.mem hm), this.ep.trans (if_neg hji).symm, this.wh.trans (if_neg hji).symm, this.lg.trans (if_neg hji).symm⟩
  · intro j hj; rw [e2] at hj; rw [hb]
    split
    · exact Nat.zero_le _
    · exact h.first j hj

theorem Rel.flip (h : Rel w A) (hi : i < w.nds.length) : Rel (w.flip i) A := by
  have hb : ∀ j, ((w.flip i).box j).epoch = (w.box j).epoch ∧ ((w.flip i).box j).whole = (w.box j).whole ∧ ((w.flip i).box j).cmds = (w.box j).cmds ∧ ((w.flip i).box j).first = (w.box j).first := fun j => by
    have e : (w.flip i).box j = if j = i then { w.box i with full := !(w.box i).full } else w.box j := by
      show (w.boxes.set i _).getD j _ = _
      rw [List.getD_eq_getElem?_getD]
      by_cases hj : j = i
      · subst hj; rw [if_pos rfl, List.getElem?_set_self (by rw [h.nb]; exact hi)]; rfl
      · rw [if_neg hj, List.getElem?_set_ne (fun h => hj h.symm), ← List.getD_eq_getElem?_getD]; rfl
    rw [e]; split
    · rename_i hj; subst hj; exact ⟨rfl, rfl, rfl, rfl⟩
    · exact ⟨rfl, rfl, rfl, rfl⟩
  refine { good := h.good, row := h.row, nb := ?_, nr := h.nr, bir := h.bir, far := h.far, E := h.E, now := h.now, c0 := h.c0, cfg := h.cfg, node := h.node, nd := ?_, first := ?_, bag := h.bag, ok := h.ok }
  · show (w.boxes.set i _).length = _; rw [List.length_set]; exact h.nb
  · intro j hj
    have := h.nd j hj
    obtain ⟨h1, h2, h3, _⟩ := hb j
    exact ⟨this.self, this.bir, this.cfg, this.mem, h1.trans this.ep, h2.trans this.wh, h3.trans this.lg⟩
  · intro j hj; rw [(hb j).2.2.2]; exact h.first j hj

theorem now_app (w : Wd C) (c : Cfg) : ({ w with cfgs := w.cfgs ++ [c] } : Wd C).now = c := by
  unfold Wd.now; simp

/-- A new epoch's configuration. -/
theorem Rel.epoch (h : Rel w A) {c : Cfg} (he : c.epoch = w.now.epoch + 1) (h1 : One (c.chain.map Mem.id))
    (h2 : ∀ a b, Lt (c.chain.map Mem.id) a b → b ∈ w.now.chain.map Mem.id → Lt (w.now.chain.map Mem.id) a b) (h3 : c.chain = [] → w.now.chain = [])
    (h4 : ∀ m ∈ c.chain, m.birth ≤ A.bir m.node) (h5 : ∀ m ∈ c.chain, m.node < w.nds.length)
    (h6 : ∀ m ∈ c.chain, m.whole = true → (∃ x ∈ w.now.chain, x.id = m.id ∧ x.whole = true) ∨ w.now.chain = []) :
    ∃ A', Rel { w with cfgs := w.cfgs ++ [c] } A' := by
  have hn := h.cfg _ h.now
  have hids : w.now.chain.map Mem.id = A.M A.E := by rw [hn.ids, h.E]
  rw [hids] at h2
  let P : Id → Prop := fun x => ∃ m ∈ c.chain, m.id = x ∧ m.whole = true
  have g : Good (A.next (c.chain.map Mem.id) P) := by
    refine h.good.nextE h1 h2 ?_ ?_ ?_ ?_
    · intro h0; rw [← hids]
      rw [List.map_eq_nil_iff] at h0; rw [h3 h0]; rfl
    · intro x hx
      obtain ⟨m, hm, rfl⟩ := List.mem_map.mp hx; exact h4 m hm
    · rintro x ⟨m, hm, rfl, _⟩; exact List.mem_map_of_mem hm
    · rintro x ⟨m, hm, rfl, hw⟩
      rcases h6 m hm hw with ⟨x, hx, hxe, hxw⟩ | h0
      · refine .inl ?_
        have := hn.fl x hx hxw
        rw [← h.E, hxe] at this; exact this
      · refine .inr ?_; rw [← hids, h0]; rfl
  have hM : ∀ k, k ≤ A.E → (A.next (c.chain.map Mem.id) P).M k = A.M k := fun k hk => if_neg (by omega)
  have hce : c.epoch = A.E + 1 := by rw [he, h.E]
  refine ⟨A.next (c.chain.map Mem.id) P, { good := g, row := ?_, nb := h.nb, nr := h.nr, bir := h.bir, far := h.far, E := ?_, now := ?_, c0 := List.mem_append_left _ h.c0, cfg := ?_, node := ?_, nd := ?_, first := h.first, bag := h.bag, ok := h.ok }⟩
  · exact h.row.same (fun k x l hu => hM k (h.good.inE (h.good.mem _ _ _ hu))) rfl
  · rw [now_app]; exact hce.symm
  · rw [now_app]; simp
  · intro c' hc'
    rcases List.mem_append.mp hc' with hc' | hc'
    · have := h.cfg c' hc'
      have hle := this.ep
      have hF : ∀ x, (A.next (c.chain.map Mem.id) P).F c'.epoch x ↔ A.F c'.epoch x := fun x => by
        show (if c'.epoch = A.E + 1 then P x else A.F c'.epoch x) ↔ _; rw [if_neg (by omega)]
      have hFF : ∀ x, (A.next (c.chain.map Mem.id) P).FF c'.epoch x ↔ A.FF c'.epoch x := fun x => by
        show (if c'.epoch = A.E + 1 then P x else A.FF c'.epoch x) ↔ _; rw [if_neg (by omega)]
      exact ⟨by rw [hM _ hle]; exact this.ids, Nat.le_succ_of_le hle, fun m hm hw => (hF _).mpr (this.fl m hm hw), fun m hm hw => this.ff m hm ((hFF _).mp hw)⟩
    · obtain rfl := List.mem_singleton.mp hc'
      refine ⟨(if_pos hce).symm, Nat.le_of_eq hce, fun m hm hw => ?_, fun m hm hw => ?_⟩
      · show if c'.epoch = A.E + 1 then _ else _
        rw [if_pos hce]; exact ⟨m, hm, rfl, hw⟩
      · have hw' : if c'.epoch = A.E + 1 then P m.id else A.FF c'.epoch m.id := hw
        rw [if_pos hce] at hw'
        obtain ⟨m2, hm2, hid, hw2⟩ := hw'
        obtain ⟨p, hp⟩ := List.mem_iff_getElem?.mp hm; obtain ⟨q, hq⟩ := List.mem_iff_getElem?.mp hm2
        have := h1 p q m.id m2.id (by rw [List.getElem?_map, hp]; rfl) (by rw [List.getElem?_map, hq]; rfl) (by rw [hid])
        subst this; rw [hp] at hq; cases hq; exact hw2
  · intro e x hx
    by_cases hke : e = A.E + 1
    · have hx' : x ∈ if e = A.E + 1 then c.chain.map Mem.id else A.M e := hx
      rw [if_pos hke] at hx'
      obtain ⟨m, hm, rfl⟩ := List.mem_map.mp hx'; exact h5 m hm
    · have hx' : x ∈ if e = A.E + 1 then c.chain.map Mem.id else A.M e := hx
      rw [if_neg hke] at hx'; exact h.node e x hx'
  · intro j hj
    have := h.nd j hj
    exact ⟨this.self, this.bir, List.mem_append_left _ this.cfg, this.mem, this.ep, this.wh, this.lg⟩
end
end Go.Ch.Agr

/- Agreement: the master's commands; the row is agreed upon after any moves. -/
namespace Go.Ch.Agr
variable {C : Type}
section
variable {w : Wd C} {A : St C} {i : Nat}

theorem one_ids (h : Rel w A) : One (w.now.chain.map Mem.id) := by
  rw [(h.cfg _ h.now).ids]; exact h.good.one _
theorem ids_get (l : List Mem) (k : Nat) : (l.map Mem.id)[k]? = (l[k]?).map Mem.id := List.getElem?_map
theorem mem_birth (h : Rel w A) {m : Mem} (hm : m ∈ w.now.chain) : m.birth ≤ A.bir m.node ∧ m.node < w.nds.length := by
  have h1 : m.id ∈ A.M w.now.epoch := by rw [← (h.cfg _ h.now).ids]; exact List.mem_map_of_mem hm
  exact ⟨h.good.born _ _ h1, h.node _ _ h1⟩

theorem Rel.add (h : Rel w A) {x : Cmd} (hk : x.kind = 1) (hx : x.node < w.nds.length) (hb : x.birth = A.bir x.node) {c : Cfg} (hd : doM w.now x = some c) : ∃ A', Rel { w with cfgs := w.cfgs ++ [c] } A' := by
  unfold doM at hd
  rw [hk] at hd
  split at hd
  · cases hd
  simp only at hd
  cases hp : place w.now.chain x.node with
  | some q => rw [hp] at hd; cases hd
  | none =>
    rw [hp] at hd; simp only at hd
    split at hd
    · cases hd
    have hnot : ∀ m ∈ w.now.chain, m.node ≠ x.node := placeF_none hp
    have h1 := one_ids h
    cases hd
    have key : ∀ (p : Nat) (a : Id), ((w.now.chain ++ [(⟨x.node, x.birth, decide (w.now.chain.length = 0)⟩ : Mem)]).map Mem.id)[p]? = some a →
        ((w.now.chain.map Mem.id)[p]? = some a ∧ a.1 ≠ x.node) ∨ (p = w.now.chain.length ∧ a = (x.node, x.birth)) := by
      intro p a hp
      rw [ids_get] at hp
      rcases Nat.lt_trichotomy p w.now.chain.length with hl | hl | hl
      · rw [List.getElem?_append_left hl] at hp
        refine .inl ⟨by rw [ids_get]; exact hp, ?_⟩
        rw [List.getElem?_eq_getElem hl] at hp; cases hp
        exact hnot _ (List.getElem_mem hl)
      · subst hl; rw [List.getElem?_append_right (Nat.le_refl _), Nat.sub_self] at hp
        cases hp; exact .inr ⟨rfl, rfl⟩
      · rw [List.getElem?_eq_none (by simp; omega)] at hp; cases hp
    refine h.epoch rfl ?_ ?_ ?_ ?_ ?_ ?_
    · intro p q a b hp hq hab
      rcases key p a hp with ⟨k1, k2⟩ | ⟨k1, k2⟩ <;> rcases key q b hq with ⟨k3, k4⟩ | ⟨k3, k4⟩
      · exact h1 p q a b k1 k3 hab
      · rw [k4] at hab; exact absurd hab k2
      · rw [k2] at hab; exact absurd hab.symm k4
      · omega
    · rintro a b ⟨p, q, hpq, hp, hq⟩ hb
      rcases key q b hq with ⟨k3, k4⟩ | ⟨k3, k4⟩
      · rcases key p a hp with ⟨k1, k2⟩ | ⟨k1, k2⟩
        · exact ⟨p, q, hpq, k1, k3⟩
        · have := (List.getElem?_eq_some_iff.mp k3).1
          rw [List.length_map] at this; omega
      · obtain ⟨m, hm, rfl⟩ := List.mem_map.mp hb
        exact absurd (congrArg Prod.fst k4) (hnot m hm)
    · intro h0; simp at h0
    · intro m hm
      rcases List.mem_append.mp hm with hm | hm
      · exact (mem_birth h hm).1
      · rw [List.mem_singleton.mp hm]; exact Nat.le_of_eq hb
    · intro m hm
      rcases List.mem_append.mp hm with hm | hm
      · exact (mem_birth h hm).2
      · rw [List.mem_singleton.mp hm]; exact hx
    · intro m hm hw
      rcases List.mem_append.mp hm with hm | hm
      · exact .inl ⟨m, hm, rfl, hw⟩
      · rw [List.mem_singleton.mp hm] at hw; simp at hw; exact .inr hw

theorem Rel.dropM (h : Rel w A) {x : Cmd} (hk : x.kind = 2) {c : Cfg} (hd : doM w.now x = some c) : ∃ A', Rel { w with cfgs := w.cfgs ++ [c] } A' := by
  unfold doM at hd
  rw [hk] at hd
  split at hd
  · cases hd
  simp only at hd
  cases hp : place w.now.chain x.node with
  | none => rw [hp] at hd; cases hd
  | some q0 =>
    rw [hp] at hd; simp only at hd
    split at hd
    · rename_i hany
      have h1 := one_ids h
      cases hd
      have key : ∀ (p : Nat) (a : Id), ((w.now.chain.eraseIdx q0).map Mem.id)[p]? = some a → (w.now.chain.map Mem.id)[if p < q0 then p else p + 1]? = some a := by
        intro p a hp
        rw [ids_get, List.getElem?_eraseIdx] at hp
        rw [ids_get]; split at hp
        · rename_i hl; rw [if_pos hl]; exact hp
        · rename_i hl; rw [if_neg hl]; exact hp
      refine h.epoch rfl ?_ ?_ ?_ ?_ ?_ ?_
      · intro p q a b hp hq hab
        have := h1 _ _ a b (key p a hp) (key q b hq) hab
        split at this <;> split at this <;> omega
      · rintro a b ⟨p, q, hpq, hp, hq⟩ _
        refine ⟨_, _, ?_, key p a hp, key q b hq⟩
        split <;> split <;> omega
      · intro h0
        have h0' : w.now.chain.eraseIdx q0 = [] := h0
        rw [h0'] at hany; cases hany
      · intro m hm; exact (mem_birth h (List.mem_of_mem_eraseIdx hm)).1
      · intro m hm; exact (mem_birth h (List.mem_of_mem_eraseIdx hm)).2
      · intro m hm hw; exact .inl ⟨m, List.mem_of_mem_eraseIdx hm, rfl, hw⟩
    · cases hd

theorem Rel.store (h : Rel w A) {x : Cmd} (hk : x.kind = 4) {c : Cfg} (hd : doM w.now x = some c) : ∃ A', Rel { w with cfgs := w.cfgs ++ [c] } A' := by
  unfold doM at hd
  rw [hk] at hd
  split at hd
  · cases hd
  simp only at hd
  split at hd
  · cases hd
  · cases hd
    exact h.epoch rfl (one_ids h) (fun _ _ hl _ => hl) (fun h0 => h0) (fun m hm => (mem_birth h hm).1) (fun m hm => (mem_birth h hm).2) (fun m hm hw => .inl ⟨m, hm, rfl, hw⟩)

theorem Rel.flagM (h : Rel w A) {x : Cmd} (hk : x.kind = 3) (hi : i < w.nds.length) (hw : wholeB (w.nd i) (w.box i) = true) (hn : x.node = i) (hb : x.birth = A.bir i) (he : x.epoch = (w.nd i).cfg.epoch)
    {c : Cfg} (hd : doM w.now x = some c) : ∃ A', Rel { w with cfgs := w.cfgs ++ [c] } A' := by
  have s := h.sit hi
  obtain ⟨hwh, ⟨m0, hm0⟩, hU⟩ := s.whole hw
  obtain ⟨_, hep, _⟩ := s.view hm0
  unfold doM at hd
  rw [hk] at hd
  split at hd
  · cases hd
  simp only at hd
  split at hd
  · cases hd
  rename_i hee
  have hee : x.epoch = w.now.epoch := by simpa using hee
  cases hp : place w.now.chain x.node with
  | none => rw [hp] at hd; cases hd
  | some q =>
    rw [hp] at hd; simp only at hd
    obtain ⟨m, hq, hmn⟩ := place_some hp
    rw [hq] at hd; simp only at hd
    split at hd
    · rename_i hmb
      have hid : m.id = A.id i := by unfold Mem.id St.id; rw [hmn, hmb.1, hn, hb]
      have hE : A.ep i = A.E := by rw [hep, ← he, hee, h.E]
      have g := h.good.flag hwh hE
      cases hd
      have hmap : (w.now.chain.set q ⟨m.node, m.birth, true⟩).map Mem.id = w.now.chain.map Mem.id := by
        rw [List.map_set]
        have : Mem.id ⟨m.node, m.birth, true⟩ = m.id := rfl
        rw [this]
        apply List.ext_getElem?
        intro k
        rw [List.getElem?_set]
        split
        · rename_i hkq; subst hkq; rw [ids_get, hq, if_pos (by rw [List.length_map]; exact (List.getElem?_eq_some_iff.mp hq).1)]; rfl
        · rfl
      have hn0 := h.cfg _ h.now
      refine ⟨A.flag (A.id i), { good := g, row := h.row.same (fun _ _ _ _ => rfl) rfl, nb := h.nb, nr := h.nr, bir := h.bir, far := h.far, E := ?_, now := ?_, c0 := List.mem_append_left _ h.c0, cfg := ?_, node := h.node, nd := ?_, first := h.first, bag := h.bag, ok := h.ok }⟩
      · rw [now_app]; exact h.E
      · rw [now_app]; simp
      · intro c' hc'
        rcases List.mem_append.mp hc' with hc' | hc'
        · have := h.cfg c' hc'
          exact ⟨this.ids, this.ep, fun m hm hw => .inl (this.fl m hm hw), this.ff⟩
        · obtain rfl := List.mem_singleton.mp hc'
          refine ⟨by rw [hmap]; exact hn0.ids, hn0.ep, fun m' hm' hw' => ?_, fun m' hm' hf => ?_⟩
          · rcases List.mem_or_eq_of_mem_set hm' with h1 | h1
            · exact .inl (hn0.fl m' h1 hw')
            · rw [h1]; exact .inr ⟨h.E.symm, hid⟩
          · rcases List.mem_or_eq_of_mem_set hm' with h1 | h1
            · exact hn0.ff m' h1 hf
            · rw [h1]
      · intro j hj
        have := h.nd j hj
        exact ⟨this.self, this.bir, List.mem_append_left _ this.cfg, this.mem, this.ep, this.wh, this.lg⟩
    · cases hd
end
section
variable [DecidableEq C] {w : Wd C} {i : Nat}
omit [DecidableEq C] in
theorem Inv.command (h : Inv w) (hi : i < w.nds.length) {k : Nat} (hk : k = 1 ∨ k = 2 ∨ k = 4) : Inv (w.command ⟨k, i, w.births.getD i 0, 0⟩) := by
  obtain ⟨A, h⟩ := h
  unfold Wd.command
  cases hd : doM w.now ⟨k, i, w.births.getD i 0, 0⟩ with
  | none => exact ⟨A, h⟩
  | some c =>
    rcases hk with rfl | rfl | rfl
    · exact h.add rfl hi (h.bir i).symm hd
    · exact h.dropM rfl hd
    · exact h.store rfl hd
omit [DecidableEq C] in
theorem Inv.whole (h : Inv w) (hi : i < w.nds.length) : Inv (w.whole i) := by
  obtain ⟨A, h⟩ := h
  unfold Wd.whole
  split
  · rename_i hw
    unfold Wd.command
    cases hd : doM w.now ⟨3, i, w.births.getD i 0, (w.nd i).cfg.epoch⟩ with
    | none => exact ⟨A, h⟩
    | some c => exact h.flagM rfl hi hw rfl (h.bir i).symm rfl hd
  · exact ⟨A, h⟩
omit [DecidableEq C] in
theorem Inv.anew (h : Inv w) (hi : i < w.nds.length) : Inv (w.anew i) := by obtain ⟨A, h⟩ := h; exact ⟨A, h.anew hi⟩
omit [DecidableEq C] in
theorem Inv.lose (h : Inv w) (hi : i < w.nds.length) : Inv (w.lose i) := by obtain ⟨A, h⟩ := h; exact ⟨_, h.lose hi⟩
omit [DecidableEq C] in
theorem Inv.flip (h : Inv w) (hi : i < w.nds.length) : Inv (w.flip i) := by obtain ⟨A, h⟩ := h; exact ⟨A, h.flip hi⟩
omit [DecidableEq C] in
theorem Inv.ok (h : Inv w) : w.ok = true := by obtain ⟨A, h⟩ := h; exact h.ok

theorem Inv.holds (h : Inv w) : w.holds = true := by
  obtain ⟨A, h⟩ := h
  unfold Wd.holds
  rw [h.ok, Bool.true_and, List.all_eq_true]
  intro i hi
  rw [List.mem_range] at hi
  unfold Wd.holdsAt
  by_cases hw : (wholeB (w.nd i) (w.box i) && decide ((w.nd i).cfg.epoch = w.now.epoch)) = true
  · rw [hw]
    rw [Bool.and_eq_true, decide_eq_true_eq] at hw
    have s := h.sit hi
    obtain ⟨hwh, ⟨m0, hm0⟩, hU⟩ := s.whole hw.1
    obtain ⟨_, hep, _⟩ := s.view hm0
    rw [hep, hw.2, ← h.E, ← s.nd.lg] at hU
    have hp := h.row.newest h.good hU
    have h1 := hp.length_le
    have h2 : (w.box i).cmds.take w.row.length = w.row := by
      obtain ⟨t, ht⟩ := hp; rw [← ht]; simp
    simp [h1, h2]
  · have : (wholeB (w.nd i) (w.box i) && decide ((w.nd i).cfg.epoch = w.now.epoch)) = false := by
      cases hh : (wholeB (w.nd i) (w.box i) && decide ((w.nd i).cfg.epoch = w.now.epoch)) with
      | true => exact absurd hh hw
      | false => rfl
    rw [this]; rfl

def St.zero : St C := ⟨0, fun _ => [], fun _ _ => False, fun _ _ => False, fun _ => 0, fun _ => 0, fun _ => false, fun _ => [], fun _ _ => none, fun _ _ _ _ => False⟩
omit [DecidableEq C] in
theorem zero_good : Good (St.zero : St C) := by
  refine { one := ?_, old := ?_, emp := fun _ _ _ _ _ => rfl, zero := rfl, ends := fun _ _ => rfl, born := ?_, ffF := fun _ _ h => h, fm := ?_, late := ?_, back := ?_, epE := fun _ => Nat.le_refl _, good := ?_, tie := fun _ => rfl, fut := fun _ _ _ => rfl, mem := ?_, bare := fun _ _ => rfl, within := ?_, anc := ?_, skip := ?_, sayU := ?_, sayL := ?_, sayA := ?_, sayB := ?_ }
  · intro e p q a b h; simp [St.zero] at h
  · intro e a b h; obtain ⟨p, q, _, h, _⟩ := h; simp [St.zero] at h
  · intro e x h; cases h
  · intro e x h; exact h.elim
  · intro e i h; exact h.elim
  · intro e x h; exact h.elim
  · intro i h; exact h.elim
  · intro e x l h; cases h
  · intro e a b la lb _ h; cases h
  · intro e z S h; cases h
  · intro i e _ h; exact h.elim
  · intro e p z S h; exact h.elim
  · intro e p z S h; exact h.elim
  · intro e p z S h; exact h.elim
  · intro e p z S h; exact h.elim
omit [DecidableEq C] in
theorem fresh_inv (many : Nat) : Inv (Wd.fresh0 many : Wd C) := by
  have hl : (Wd.fresh0 many : Wd C).nds.length = many := by simp [Wd.fresh0]
  have hb : ∀ i, (Wd.fresh0 many : Wd C).box i = Box.new := by
    intro i; unfold Wd.box Wd.fresh0
    simp only [List.getD_eq_getElem?_getD, List.getElem?_replicate]; split <;> rfl
  have hbi : ∀ i, (Wd.fresh0 many : Wd C).births.getD i 0 = 0 := by
    intro i; unfold Wd.fresh0
    simp only [List.getD_eq_getElem?_getD, List.getElem?_replicate]; split <;> rfl
  have hn : ∀ i, i < many → (Wd.fresh0 many : Wd C).nd i = newD i 0 := by
    intro i hi; unfold Wd.nd Wd.fresh0
    simp [List.getD_eq_getElem?_getD, hi]
  refine ⟨St.zero, { good := zero_good, row := ⟨fun _ _ _ _ h => (by cases h), .inl rfl⟩, nb := by simp [Wd.fresh0], nr := by simp [Wd.fresh0], bir := fun i => (hbi i).symm, far := fun _ _ => ⟨rfl, rfl, rfl⟩, E := rfl, now := by simp [Wd.fresh0, Wd.now], c0 := by simp [Wd.fresh0], cfg := ?_, node := fun e x h => (by cases h), nd := ?_, first := fun i _ => by rw [hb]; exact Nat.zero_le _, bag := fun x h => (by simp [Wd.fresh0] at h), ok := rfl }⟩
  · intro c hc
    have : c = ⟨0, [], []⟩ := by simpa [Wd.fresh0] using hc
    subst this
    exact ⟨rfl, Nat.le_refl _, fun m hm => (by cases hm), fun m hm => (by cases hm)⟩
  · intro i hi; rw [hl] at hi
    rw [hn i hi, hb]
    exact ⟨rfl, rfl, by simp [Wd.fresh0, newD], fun h => (by rw [newD_member] at h; cases h), rfl, rfl, rfl⟩
end
end Go.Ch.Agr
