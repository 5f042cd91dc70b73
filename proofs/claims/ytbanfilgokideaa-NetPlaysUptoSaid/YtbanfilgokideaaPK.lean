/- The plain law of NetPlays: the links, sorted, are those that the document's counts give. -/
import Derived.Test.YtbanfilgokideaaPL
import Derived.Test.YtbanfilgokideaaS6
namespace Go.Proofs.Ytbanfilgokideaa
open Go.RowKit Go.Gl

def lkOf (x : (Int × Int) × List Msg) : Lk := (x.1.1, x.1.2, (x.2.length : Int))

theorem lkEnt_of (gs : List Bag) : (gs.map Bag.ent).map lkEnt = (vw gs).map lkOf := by
  unfold vw
  rw [List.map_map, List.map_map]
  rfl

/-- The link at a place of the square of nodes, with its count, if it has messages. -/
def cellLk (n : Nat) (L : List RM) (s : Nat) : Option Lk :=
  if (ofL (((s / n : Nat) : Int), ((s % n : Nat) : Int)) L).length = 0 then none else some (((s / n : Nat) : Int), ((s % n : Nat) : Int), ((ofL (((s / n : Nat) : Int), ((s % n : Nat) : Int)) L).length : Int))
def refPre (n : Nat) (L : List RM) (s : Nat) : List Lk := (List.range s).filterMap (cellLk n L)

theorem refPre_succ (n : Nat) (L : List RM) (s : Nat) : refPre n L (s + 1) = refPre n L s ++ (cellLk n L s).toList := by
  unfold refPre
  rw [List.range_succ, List.filterMap_append]
  cases h : cellLk n L s <;> simp [h]

theorem refPre_le {n : Nat} {L : List RM} {s t : Nat} (h : s ≤ t) : ∃ r, refPre n L t = refPre n L s ++ r := by
  induction t with
  | zero =>
    obtain rfl : s = 0 := by omega
    exact ⟨[], by simp⟩
  | succ t ih =>
    by_cases hs : s = t + 1
    · subst hs; exact ⟨[], by simp⟩
    · obtain ⟨r, hr⟩ := ih (by omega)
      exact ⟨r ++ (cellLk n L t).toList, by rw [refPre_succ, hr, List.append_assoc]⟩

/-- The next link. -/
theorem refPre_at {n : Nat} {L : List RM} {s t : Nat} (h : s < t) {x : Lk} (hx : cellLk n L s = some x) : (refPre n L t)[(refPre n L s).length]? = some x ∧ (refPre n L (s + 1)).length = (refPre n L s).length + 1 := by
  have h1 := refPre_succ n L s
  rw [hx] at h1
  obtain ⟨r, hr⟩ := refPre_le (n := n) (L := L) (show s + 1 ≤ t by omega)
  refine ⟨?_, by rw [h1]; simp⟩
  rw [hr, h1]; simp

theorem refPre_skip {n : Nat} {L : List RM} {s : Nat} (hx : cellLk n L s = none) : refPre n L (s + 1) = refPre n L s := by rw [refPre_succ, hx]; simp

theorem cellLk_at {n i j : Nat} (hj : j < n) (L : List RM) : cellLk n L (i * n + j) = if (ofL ((i : Int), (j : Int)) L).length = 0 then none else some ((i : Int), (j : Int), ((ofL ((i : Int), (j : Int)) L).length : Int)) := by
  have h1 : (i * n + j) / n = i := by
    rw [Nat.mul_comm, Nat.mul_add_div (by omega), Nat.div_eq_of_lt hj]; omega
  have h2 : (i * n + j) % n = j := by
    rw [Nat.mul_comm, Nat.mul_add_mod, Nat.mod_eq_of_lt hj]
  unfold cellLk
  rw [h1, h2]

theorem cellLk_some {n : Nat} {L : List RM} {s : Nat} {x : Lk} (h : cellLk n L s = some x) : x.1 = ((s / n : Nat) : Int) ∧ x.2.1 = ((s % n : Nat) : Int) ∧ x.2.2 = ((ofL (x.1, x.2.1) L).length : Int) ∧ (ofL (x.1, x.2.1) L).length ≠ 0 := by
  unfold cellLk at h
  split at h
  · cases h
  · cases h; exact ⟨rfl, rfl, rfl, by assumption⟩

/-- The order of links, strictly. -/
def ltL (x y : Lk) : Prop := x.1 < y.1 ∨ (x.1 = y.1 ∧ x.2.1 < y.2.1)

theorem refPre_sorted (n : Nat) (L : List RM) (s : Nat) : (refPre n L s).Pairwise ltL := by
  unfold refPre
  rw [List.pairwise_filterMap]
  refine List.Pairwise.imp ?_ List.pairwise_lt_range
  intro a b hab x hx y hy
  have h1 := cellLk_some hx
  have h2 := cellLk_some hy
  unfold ltL
  rw [h1.1, h1.2.1, h2.1, h2.2.1]
  have h3 : a / n ≤ b / n := Nat.div_le_div_right (by omega)
  have h4 := Nat.div_add_mod a n
  have h5 := Nat.div_add_mod b n
  by_cases h6 : a / n = b / n
  · right
    rw [h6] at h4 ⊢
    generalize n * (b / n) = z at *
    omega
  · left; omega

theorem cpl_links {nodes bound : Int} {V : View} {L : List RM} (h : Cpl nodes bound V L) {n : Nat} (hn : nodes = n) {ls : List Lk} (hp : ls.Perm (V.map lkOf)) (hs : ls.Pairwise (fun x y => cfLk x y ≤ 0)) : ls = refPre n L (n * n) := by
  have hV : (V.map lkOf).Nodup := by
    have h1 : (V.map lkOf).map (fun x => (x.1, x.2.1)) = keysV V := by unfold keysV; rw [List.map_map]; rfl
    have h2 := h.keys
    rw [← h1] at h2
    exact List.Pairwise.of_map _ (fun a b hab e => hab (by rw [e])) h2
  have hL : (refPre n L (n * n)).Nodup := (refPre_sorted n L (n * n)).imp fun {a b} hab e => by subst e; unfold ltL at hab; omega
  have hmem : ∀ a, a ∈ V.map lkOf ↔ a ∈ refPre n L (n * n) := by
    intro a
    constructor
    · intro ha
      obtain ⟨x, hx, rfl⟩ := List.mem_map.1 ha
      have hlen : (ofL x.1 L).length = x.2.length := by rw [← h.len, look_of_mem h.keys hx]
      have hne : x.2.length ≠ 0 := fun e => (h.full x hx).1 (List.eq_nil_of_length_eq_zero e)
      have hof : ofL x.1 L ≠ [] := fun e => by rw [e] at hlen; exact hne hlen.symm
      obtain ⟨m, hm⟩ := List.exists_mem_of_ne_nil _ hof
      obtain ⟨hmL, hmk⟩ := List.mem_filter.1 hm
      simp only [Bool.and_eq_true, decide_eq_true_eq] at hmk
      obtain ⟨⟨r1, r2⟩, r3, r4⟩ := h.rng m hmL
      rw [hmk.1] at r1 r2
      rw [hmk.2] at r3 r4
      obtain ⟨i, hi⟩ : ∃ i : Nat, x.1.1 = (i : Int) := ⟨x.1.1.toNat, by omega⟩
      obtain ⟨j, hj⟩ : ∃ j : Nat, x.1.2 = (j : Int) := ⟨x.1.2.toNat, by omega⟩
      have hin : i < n := by omega
      have hjn : j < n := by omega
      refine List.mem_filterMap.2 ⟨i * n + j, ?_, ?_⟩
      · rw [List.mem_range]
        have : (i + 1) * n ≤ n * n := Nat.mul_le_mul_right n hin
        rw [Nat.add_mul] at this; omega
      · rw [cellLk_at hjn]
        have e1 : (((i : Int), (j : Int)) : Int × Int) = x.1 := by rw [← hi, ← hj]
        rw [e1, hlen, if_neg hne]
        unfold lkOf
        rw [← hi, ← hj]
    · intro ha
      obtain ⟨s, _, hs'⟩ := List.mem_filterMap.1 ha
      obtain ⟨_, _, h3, h4⟩ := cellLk_some hs'
      have hk := h.mem h4
      obtain ⟨x, hx, hxk⟩ := List.mem_map.1 hk
      refine List.mem_map.2 ⟨x, hx, ?_⟩
      have hlen : (ofL x.1 L).length = x.2.length := by rw [← h.len, look_of_mem h.keys hx]
      unfold lkOf
      have e1 : x.1.1 = a.1 := by rw [show x.1 = (a.1, a.2.1) from hxk]
      have e2 : x.1.2 = a.2.1 := by rw [show x.1 = (a.1, a.2.1) from hxk]
      rw [e1, e2, ← hlen, show x.1 = (a.1, a.2.1) from hxk, ← h3]
  have hperm : ls.Perm (refPre n L (n * n)) := hp.trans ((List.perm_ext_iff_of_nodup hV hL).2 hmem)
  refine hperm.eq_of_pairwise (le := fun x y => cfLk x y ≤ 0) ?_ hs ((refPre_sorted n L (n * n)).imp fun {a b} hab => ?_)
  · intro a b ha hb h1 h2
    have hkey : a.1 = b.1 ∧ a.2.1 = b.2.1 := by
      unfold cfLk cmpI at h1 h2
      by_cases e1 : a.1 < b.1
      · exfalso
        have e2 : ¬ b.1 < a.1 := by omega
        simp [e1, e2] at h2
      · by_cases e2 : b.1 < a.1
        · exfalso; simp [e1, e2] at h1
        · have e3 : a.1 = b.1 := by omega
          refine ⟨e3, ?_⟩
          simp only [e1, e2, if_false, if_true] at h1 h2
          by_cases e4 : a.2.1 < b.2.1
          · exfalso
            have e5 : ¬ b.2.1 < a.2.1 := by omega
            simp [e4, e5] at h2
          · by_cases e5 : b.2.1 < a.2.1
            · exfalso; simp [e4, e5] at h1
            · omega
    have ha' := hperm.mem_iff.1 ha
    obtain ⟨s, _, hsa⟩ := List.mem_filterMap.1 ha'
    obtain ⟨t, _, htb⟩ := List.mem_filterMap.1 hb
    have h3 := (cellLk_some hsa).2.2.1
    have h4 := (cellLk_some htb).2.2.1
    rw [hkey.1, hkey.2, ← h4] at h3
    exact Prod.ext hkey.1 (Prod.ext hkey.2 h3)
  · unfold ltL at hab
    unfold cfLk cmpI
    (repeat' split) <;> omega

theorem Cpl.bags {nodes bound : Int} {V : View} {L : List RM} (h : Cpl nodes bound V L) : V.length ≤ L.length := by
  rw [← h.tot]
  have hf : ∀ x ∈ V, x.2 ≠ [] := fun x hx => (h.full x hx).1
  clear h
  induction V with
  | nil => simp
  | cons x V ih =>
    have h1 := ih (fun y hy => hf y (List.mem_cons_of_mem _ hy))
    have h2 : x.2.length ≠ 0 := fun e => hf x (List.mem_cons_self ..) (List.eq_nil_of_length_eq_zero e)
    unfold totV at h1 ⊢
    simp only [List.map_cons, List.sum_cons, List.length_cons]
    omega
end Go.Proofs.Ytbanfilgokideaa
