/- Plain laws on views of a net: what a message more or less does to the count; the links' names are each there once. -/
import Derived.Test.YtbanfilgokideaaN11
namespace Go.Proofs.Ytbanfilgokideaa
open Go.RowKit Go.Gl

def keysV (V : View) : List (Int × Int) := V.map (·.1)

theorem sum_map_add {α : Type} (l : List α) (f g : α → Nat) : (l.map fun x => f x + g x).sum = (l.map f).sum + (l.map g).sum := by
  induction l with
  | nil => rfl
  | cons a l ih => simp only [List.map_cons, List.sum_cons, ih]; omega

theorem sum_zero {l : List Nat} (h : ∀ n ∈ l, n = 0) : l.sum = 0 := by
  induction l with
  | nil => rfl
  | cons a l ih => rw [List.sum_cons, h a (by simp), ih fun n hn => h n (List.mem_cons_of_mem _ hn)]

theorem le_sum {l : List Nat} {n : Nat} (h : n ∈ l) : n ≤ l.sum := by
  induction l with
  | nil => cases h
  | cons a l ih =>
    rw [List.sum_cons]
    rcases List.mem_cons.1 h with h | h
    · omega
    · have := ih h; omega

theorem sum_one {V : View} {k : Int × Int} (hn : (keysV V).Nodup) (hk : k ∈ keysV V) : (V.map fun x => if x.1 = k then 1 else 0).sum = 1 := by
  induction V with
  | nil => cases hk
  | cons x V ih =>
    simp only [keysV, List.map_cons, List.nodup_cons] at hn hk
    simp only [List.map_cons, List.sum_cons]
    by_cases hx : x.1 = k
    · have : (V.map fun x => if x.1 = k then 1 else 0).sum = 0 := by
        refine sum_zero fun n hn' => ?_
        obtain ⟨y, hy, rfl⟩ := List.mem_map.1 hn'
        rw [if_neg]
        intro e
        exact hn.1 (List.mem_map.2 ⟨y, hy, e.trans hx.symm⟩)
      rw [if_pos hx, this]
    · rw [if_neg hx, ih hn.2]
      rcases List.mem_cons.1 hk with h | h
      · exact absurd h.symm hx
      · exact h

theorem tot_push {V : View} (hn : (keysV V).Nodup) (k : Int × Int) (m : Msg) : totV (pushV k m V) = totV V + 1 := by
  unfold pushV
  by_cases hk : k ∈ V.map (·.1)
  · rw [if_pos hk]
    unfold totV
    rw [List.map_map, ← sum_one hn hk, ← sum_map_add]
    congr 1
    apply List.map_congr_left
    intro x _
    by_cases hx : x.1 = k
    · simp [hx]
    · simp [hx]
  · rw [if_neg hk]
    simp [totV]

theorem keys_push (k : Int × Int) (m : Msg) (V : View) : keysV (pushV k m V) = if k ∈ keysV V then keysV V else keysV V ++ [k] := by
  unfold pushV keysV
  by_cases hk : k ∈ V.map (·.1)
  · rw [if_pos hk, if_pos hk, List.map_map]
    apply List.map_congr_left
    intro x _
    by_cases hx : x.1 = k <;> simp [hx]
  · rw [if_neg hk, if_neg hk]; simp

theorem nodup_push {V : View} (hn : (keysV V).Nodup) (k : Int × Int) (m : Msg) : (keysV (pushV k m V)).Nodup := by
  rw [keys_push]
  by_cases hk : k ∈ keysV V
  · rw [if_pos hk]; exact hn
  · rw [if_neg hk]
    refine List.nodup_append.2 ⟨hn, by simp, ?_⟩
    intro a ha b hb
    have : b = k := by simpa using hb
    subst this
    intro e; subst e; exact hk ha

/-- Of every message. -/
def AllM (p : Msg → Prop) (V : View) : Prop := ∀ x ∈ V, x.2 ≠ [] ∧ ∀ m ∈ x.2, p m

theorem AllM.push {p : Msg → Prop} {V : View} (h : AllM p V) (k : Int × Int) {m : Msg} (hm : p m) : AllM p (pushV k m V) := by
  unfold pushV
  by_cases hk : k ∈ V.map (·.1)
  · rw [if_pos hk]
    intro x hx
    obtain ⟨y, hy, rfl⟩ := List.mem_map.1 hx
    by_cases hyk : y.1 = k
    · simp only [hyk, if_true]
      refine ⟨by simp, fun m' hm' => ?_⟩
      rcases List.mem_append.1 hm' with h1 | h1
      · exact (h y hy).2 m' h1
      · have : m' = m := by simpa using h1
        rw [this]; exact hm
    · simp only [hyk, if_false]
      exact h y hy
  · rw [if_neg hk]
    intro x hx
    rcases List.mem_append.1 hx with h1 | h1
    · exact h x h1
    · have : x = (k, [m]) := by simpa using h1
      subst this
      exact ⟨by simp, fun m' hm' => by have : m' = m := by simpa using hm'
                                       rw [this]; exact hm⟩

theorem AllM.take {p : Msg → Prop} {V : View} (h : AllM p V) (k : Int × Int) (j : Nat) : AllM p (takeV k j V) := by
  intro x hx
  unfold takeV at hx
  obtain ⟨hx1, hx2⟩ := List.mem_filter.1 hx
  obtain ⟨y, hy, rfl⟩ := List.mem_map.1 hx1
  refine ⟨by intro e; simp [e] at hx2, fun m hm => ?_⟩
  by_cases hyk : y.1 = k
  · simp only [hyk, if_true] at hm
    exact (h y hy).2 m (List.mem_of_mem_eraseIdx hm)
  · simp only [hyk, if_false] at hm
    exact (h y hy).2 m hm

theorem lookV_mem {V : View} {k : Int × Int} (h : lookV k V ≠ []) : (k, lookV k V) ∈ V := by
  unfold lookV at *
  cases hf : V.find? (fun x => decide (k = x.1)) with
  | none => simp [hf] at h
  | some x =>
    have h1 := List.mem_of_find?_eq_some hf
    have h2 := List.find?_some hf
    simp only [decide_eq_true_eq] at h2
    rw [h2]; exact h1

theorem look_of_mem {V : View} (hn : (keysV V).Nodup) {x : (Int × Int) × List Msg} (hx : x ∈ V) : lookV x.1 V = x.2 := by
  induction V with
  | nil => cases hx
  | cons y V ih =>
    simp only [keysV, List.map_cons, List.nodup_cons] at hn
    unfold lookV
    by_cases hyx : x.1 = y.1
    · have : x = y := by
        rcases List.mem_cons.1 hx with h | h
        · exact h
        · exact absurd (List.mem_map.2 ⟨x, h, hyx⟩) hn.1
      subst this; simp
    · rw [List.find?_cons_of_neg (by simpa using hyx)]
      rcases List.mem_cons.1 hx with h | h
      · exact absurd (by rw [h]) hyx
      · exact ih hn.2 h

theorem sum_filter_nonempty (V : View) : ((V.filter fun x => !x.2.isEmpty).map (·.2.length)).sum = (V.map (·.2.length)).sum := by
  induction V with
  | nil => rfl
  | cons x V ih =>
    cases hx : x.2 with
    | nil => rw [List.filter_cons_of_neg (by simp [hx])]; simp [ih, hx]
    | cons a l => rw [List.filter_cons_of_pos (by simp [hx])]; simp [ih, hx]

theorem tot_take {V : View} (hn : (keysV V).Nodup) {k : Int × Int} {j : Nat} (hj : j < (lookV k V).length) : totV (takeV k j V) + 1 = totV V := by
  have hmem := lookV_mem (V := V) (k := k) (by intro e; rw [e] at hj; simp at hj)
  have hk : k ∈ keysV V := List.mem_map.2 ⟨_, hmem, rfl⟩
  unfold totV takeV
  rw [sum_filter_nonempty, List.map_map, ← sum_one hn hk, ← sum_map_add]
  congr 1
  apply List.map_congr_left
  intro x hx
  by_cases hxk : x.1 = k
  · have := look_of_mem hn hx
    rw [hxk] at this
    rw [this] at hj
    simp [hxk, List.length_eraseIdx, hj]; omega
  · simp [hxk]

theorem nodup_take {V : View} (hn : (keysV V).Nodup) (k : Int × Int) (j : Nat) : (keysV (takeV k j V)).Nodup := by
  unfold takeV keysV
  refine List.Nodup.sublist (List.filter_sublist.map _) ?_
  rw [List.map_map]
  have : (V.map ((·.1) ∘ fun x => if x.1 = k then (x.1, x.2.eraseIdx j) else x)) = keysV V := by
    apply List.map_congr_left
    intro x _
    by_cases hx : x.1 = k <;> simp [hx]
  rw [this]; exact hn

theorem keys_net {B : Nat} {w : World} {p r : Nat} {nodes bound now : Int} {gs : List Bag} (h : NetAt B w p r nodes bound now gs) : (keysV (vw gs)).Nodup := by
  unfold keysV; rw [vw_keys]; exact h.keys

theorem sent_tot {nodes bound f : Int} {l : List UInt8} {p : Msg → Prop} (hp : ∀ v, p ⟨v, l⟩) : ∀ {ks : List Int} {V V' : View} {n : Nat} {vs : List Value}, (keysV V).Nodup → AllM p V → Sent nodes bound f l ks V V' n vs → totV V' = totV V + n ∧ AllM p V'
  | [], V, V', n, vs, _, ha, ⟨h1, h2, _⟩ => by subst h1 h2; exact ⟨rfl, ha⟩
  | k :: ks, V, V', n, vs, hn, ha, h => by
    rcases h with ⟨_, v, n', vs', rfl, _, h2⟩ | ⟨_, h2⟩
    · have := sent_tot hp (nodup_push hn (f, k) ⟨v, l⟩) (ha.push (f, k) (hp v)) h2
      rw [tot_push hn] at this
      exact ⟨by omega, this.2⟩
    · exact sent_tot hp hn ha h2

theorem look_le_tot (k : Int × Int) (V : View) : (lookV k V).length ≤ totV V := by
  by_cases h : lookV k V = []
  · rw [h]; simp
  · have hm := lookV_mem h
    unfold totV
    exact le_sum (List.mem_map.2 ⟨_, hm, rfl⟩)

theorem full_of_all {p : Msg → Prop} {gs : List Bag} (h : AllM p (vw gs)) : ∀ g ∈ gs, g.msgs ≠ [] := fun g hg => (h (g.key, g.msgs) (List.mem_map.2 ⟨g, hg, rfl⟩)).1
end Go.Proofs.Ytbanfilgokideaa
