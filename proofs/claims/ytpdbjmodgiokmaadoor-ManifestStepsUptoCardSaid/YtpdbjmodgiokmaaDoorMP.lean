/- The plain law of ManifestSteps: edits one behind the other; tables in strict order. -/
import Derived.Test.YtpdbjmodgiokmaaDoorM9
namespace Go.Proofs.YtpdbjmodgiokmaaDoor
open Go.RowKit Go.Gl

/-- Files are each there once. -/
def Once (l : List Tb) : Prop := (l.map Tb.file).Nodup

theorem addsD_once : ∀ {r l l' : List Tb}, Once l → addsD l r = some l' → Once l'
  | [], l, l', h, he => by simp [addsD] at he; subst he; exact h
  | t :: r, l, l', h, he => by
    unfold addsD at he
    split at he
    · cases he
    · rename_i hb
      refine addsD_once ?_ he
      have hf : hasF l t.file = false := by
        cases hh : hasF l t.file with
        | false => rfl
        | true => exact absurd (by simp only [addBad, hh, Bool.true_or, Bool.or_true]) hb
      unfold Once
      rw [List.map_append]
      refine List.nodup_append.2 ⟨h, by simp, ?_⟩
      intro a ha b hb'
      simp only [List.map_cons, List.map_nil, List.mem_singleton] at hb'
      subst hb'
      intro e
      obtain ⟨x, hx, rfl⟩ := List.mem_map.1 ha
      have : hasF l t.file = true := List.any_eq_true.2 ⟨x, hx, by simpa using e⟩
      rw [hf] at this; cases this

theorem applyD_once {v : VerD} {e : EdD} (h : Once v.tabs) : Once (applyD v e).2.tabs := by
  have hz : Once verZero.tabs := by simp [Once, verZero]
  unfold applyD
  split
  · exact hz
  · split
    · exact hz
    · rename_i l hl
      have h1 : Once (v.tabs.filter (keepT e.drop)) := h.sublist (List.filter_sublist.map _)
      have h2 := addsD_once h1 hl
      split
      · exact hz
      · split
        · exact hz
        · split
          · exact hz
          · exact ((sortD_perm l).map Tb.file).nodup_iff.2 h2

/-- Tables in strict order. -/
def Strict (l : List Tb) : Prop := l.Pairwise ltT

theorem strict_of {l : List Tb} (h : Once l) : Strict (sortD l) := by
  have h1 : Once (sortD l) := ((sortD_perm l).map Tb.file).nodup_iff.2 h
  have h2 := sortD_sorted l
  have h3 : (sortD l).Pairwise (fun x y => x.file ≠ y.file) := List.pairwise_map.1 h1
  refine (h2.and h3).imp fun {a b} hab => ?_
  by_cases hl : ltT a b
  · exact hl
  · exact absurd (ltT_tri a b hl hab.1).2.2 hab.2

theorem applyD_strict {v : VerD} {e : EdD} (h : Once v.tabs) : Strict (applyD v e).2.tabs := by
  have hz : Strict verZero.tabs := List.Pairwise.nil
  unfold applyD
  split
  · exact hz
  · split
    · exact hz
    · rename_i l hl
      have h1 : Once (v.tabs.filter (keepT e.drop)) := h.sublist (List.filter_sublist.map _)
      have h2 := addsD_once h1 hl
      split
      · exact hz
      · split
        · exact hz
        · split
          · exact hz
          · exact strict_of h2

/-- An edit that is refused gives the zero version. -/
theorem applyD_zero (v : VerD) (e : EdD) (h : (applyD v e).1 ≠ 0) : (applyD v e).2 = verZero := by
  revert h
  unfold applyD
  split
  · intro _; rfl
  · split
    · intro _; rfl
    · split
      · intro _; rfl
      · split
        · intro _; rfl
        · split
          · intro _; rfl
          · intro h; exact absurd rfl h

theorem applyAll_snoc : ∀ {ts : List EdD} {v v' : VerD} {e : EdD}, applyAllD v ts = (0, v') → (applyD v' e).1 = 0 → applyAllD v (ts ++ [e]) = (0, (applyD v' e).2)
  | [], v, v', e, h, he => by
    simp only [applyAllD, Prod.mk.injEq, true_and] at h
    subst h
    simp only [List.nil_append, applyAllD, he, if_true]
  | t :: ts, v, v', e, h, he => by
    unfold applyAllD at h
    by_cases ht : (applyD v t).1 = 0
    · rw [if_pos ht] at h
      rw [List.cons_append, applyAllD, if_pos ht]
      exact applyAll_snoc h he
    · rw [if_neg ht] at h
      exact absurd (congrArg Prod.fst h) ht

theorem applyAll_one (v : VerD) (e : EdD) : applyAllD v [e] = if (applyD v e).1 = 0 then (0, (applyD v e).2) else ((applyD v e).1, verZero) := rfl
end Go.Proofs.YtpdbjmodgiokmaaDoor
