/- manifest.Compare, and that it orders tables. -/
import Derived.Test.YtpdbjmodgiokmaaDoorM1
import Derived.Sort.Walk0
import Derived.Shelf.SlSortCmp.InsertionK
namespace Go.Proofs.YtpdbjmodgiokmaaDoor
open Go.RowKit Go.Gl Go.Sort Go.Shelf

set_option maxHeartbeats 1000000 in
theorem compare_any (x y : Tb) (W : World) : Calls Tryd.prog 8 #[.agg (encTb x).toArray, .agg (encTb y).toArray] W fun e w' => e = .returned (.int .i64 (cfTb x y)) ∧ ∃ q os', w' = grow (W.drewN q) os' := by
  obtain ⟨x0, x1, x2, x3, x4⟩ := x
  obtain ⟨y0, y1, y2, y3, y4⟩ := y
  simp only [cfTb, encTb]
  have hc0 := compare_int x1 y1
  have hc1 := compare_str x2 y2
  have hc2 := compare_int x0 y0
  generalize cmpI x1 y1 = c0 at *
  generalize cmpS x2 y2 = c1 at *
  generalize cmpI x0 y0 = c2 at *
  have hor := or_int3 c0 c1 c2
  generalize or3 c0 c1 c2 = res at *
  have b0 : ((W.alloc (.cells #[.int .i64 x0, .int .i64 x1, .string x2, .string x3, .int .i64 x4] 38)).alloc (.cells #[.int .i64 y0, .int .i64 y1, .string y2, .string y3, .int .i64 y4] 38)).heap[W.heap.size]? = some (.cells #[.int .i64 x0, .int .i64 x1, .string x2, .string x3, .int .i64 x4] 38 (0, 0)) := (heap_alloc_old _ _ (by simp)).trans (heap_alloc_new _ _)
  have b1 : ((W.alloc (.cells #[.int .i64 x0, .int .i64 x1, .string x2, .string x3, .int .i64 x4] 38)).alloc (.cells #[.int .i64 y0, .int .i64 y1, .string y2, .string y3, .int .i64 y4] 38)).heap[W.heap.size + 1]? = some (.cells #[.int .i64 y0, .int .i64 y1, .string y2, .string y3, .int .i64 y4] 38 (0, 0)) := by
    have := heap_alloc_new (W.alloc (.cells #[.int .i64 x0, .int .i64 x1, .string x2, .string x3, .int .i64 x4] 38)) (.cells #[.int .i64 y0, .int .i64 y1, .string y2, .string y3, .int .i64 y4] 38)
    simpa using this
  obtain ⟨d0, d1, d2, _, _⟩ := cells5 b0
  obtain ⟨e0, e1, e2, _, _⟩ := cells5 b1
  have l0 := lt_of_getElem? b0
  have l1 := lt_of_getElem? b1
  have hfin : ∃ os, (W.alloc (.cells #[.int .i64 x0, .int .i64 x1, .string x2, .string x3, .int .i64 x4] 38)).alloc (.cells #[.int .i64 y0, .int .i64 y1, .string y2, .string y3, .int .i64 y4] 38) = grow W os := ⟨_, by rw [alloc_eq_grow, alloc_eq_grow, grow_grow]⟩
  have Hc0 := Lib.hid hc0
  have Hc1 := Lib.hid hc1
  have Hc2 := Lib.hid hc2
  have Hor := Lib.hid hor
  have Hfin := Lib.hid hfin
  clear b0 b1 hc0 hc1 hc2 hor hfin
  go_enter Tryd.func8, Tryd.ntmps8
  go_wp2_with fail
  generalize (W.alloc (.cells #[.int .i64 x0, .int .i64 x1, .string x2, .string x3, .int .i64 x4] 38)).alloc (.cells #[.int .i64 y0, .int .i64 y1, .string y2, .string y3, .int .i64 y4] 38) = w0 at *
  have hcl := Grow.cells (w := w0)
  refine wp_region_pi (fun V => Below w0.heap.size w0 V)
    [(0, false), (1, false), (2, false), (3, false), (5, false), (6, false), (7, false), (8, false), (10, false), (11, false), (12, false), (13, false), (4, true), (9, true), (14, true), (15, true), (16, true), (17, false)] (by kernel_rfl) (by kernel_rfl) (fun c a d v w h => by cases d <;> exact h) (by (repeat (first | exact Below.refl _ _ | assumption | refine Below.drew ?_ | refine bDrewN ?_ | refine Below.setCell ?_ (by first | omega | (simp <;> omega)) _ | refine Below.alloc ?_ (by first | omega | (simp <;> omega)) _))) ?_
  simp only [arrange, nth]
  repeat (first | (refine wpPi_quiet (v := ?_) (by rfl) (fun W hW => ?_) ?_; rotate_left; (obtain hW := hW; go_simp; with_reducible rfl); simp only [Act.put, List.setIfInBounds_toArray, List.set_cons_zero, List.set_cons_succ]) | (refine wpPi_off (by rfl) ?_; simp only [Act.put, List.setIfInBounds_toArray, List.set_cons_zero, List.set_cons_succ]))
  refine wpPi_call (by rfl) (by go_simp) (Hc0.out _) ?_
  rintro e w2 ⟨rfl, rfl⟩
  refine ⟨_, rfl, by (repeat (first | exact Below.refl _ _ | assumption | refine Below.drew ?_ | refine bDrewN ?_ | refine Below.setCell ?_ (by first | omega | (simp <;> omega)) _ | refine Below.alloc ?_ (by first | omega | (simp <;> omega)) _)), ?_⟩
  try simp only [Act.put, List.setIfInBounds_toArray, List.set_cons_zero, List.set_cons_succ]
  refine wpPi_call (by rfl) (by go_simp) (Hc1.out _) ?_
  rintro e w2 ⟨rfl, rfl⟩
  refine ⟨_, rfl, by (repeat (first | exact Below.refl _ _ | assumption | refine Below.drew ?_ | refine bDrewN ?_ | refine Below.setCell ?_ (by first | omega | (simp <;> omega)) _ | refine Below.alloc ?_ (by first | omega | (simp <;> omega)) _)), ?_⟩
  try simp only [Act.put, List.setIfInBounds_toArray, List.set_cons_zero, List.set_cons_succ]
  refine wpPi_call (by rfl) (by go_simp) (Hc2.out _) ?_
  rintro e w2 ⟨rfl, rfl⟩
  refine ⟨_, rfl, by (repeat (first | exact Below.refl _ _ | assumption | refine Below.drew ?_ | refine bDrewN ?_ | refine Below.setCell ?_ (by first | omega | (simp <;> omega)) _ | refine Below.alloc ?_ (by first | omega | (simp <;> omega)) _)), ?_⟩
  try simp only [Act.put, List.setIfInBounds_toArray, List.set_cons_zero, List.set_cons_succ]
  refine wpPi_run (by rfl) (v := .slice (some ⟨w0.drew.heap.size, 0, none⟩) 3 3) (w' := World.alloc w0.drew (.cells #[.int .i64 c0, .int .i64 c1, .int .i64 c2] 3)) ?_ (by (repeat (first | exact Below.refl _ _ | assumption | refine Below.drew ?_ | refine bDrewN ?_ | refine Below.setCell ?_ (by first | omega | (simp <;> omega)) _ | refine Below.alloc ?_ (by first | omega | (simp <;> omega)) _))) ?_
  · unfold execOp
    simp only [Act.eval]
    simp [run_buildInts3]
  try simp only [Act.put, List.setIfInBounds_toArray, List.set_cons_zero, List.set_cons_succ]
  refine wpPi_call (by rfl) (by go_simp) (Hor.out w0.drew.heap.size (World.alloc w0.drew (.cells #[.int .i64 c0, .int .i64 c1, .int .i64 c2] 3)) (by unfold World.cell?; rw [heap_alloc_new]; rfl) (by unfold World.cell?; rw [heap_alloc_new]; rfl) (by unfold World.cell?; rw [heap_alloc_new]; rfl)) ?_
  rintro e w2 ⟨rfl, rfl⟩
  refine ⟨_, rfl, by (repeat (first | exact Below.refl _ _ | assumption | refine Below.drew ?_ | refine bDrewN ?_ | refine Below.setCell ?_ (by first | omega | (simp <;> omega)) _ | refine Below.alloc ?_ (by first | omega | (simp <;> omega)) _)), ?_⟩
  try simp only [Act.put, List.setIfInBounds_toArray, List.set_cons_zero, List.set_cons_succ]
  repeat (first | (refine wpPi_quiet (v := ?_) (by rfl) (fun W hW => ?_) ?_; rotate_left; (obtain hW := hW; go_simp; with_reducible rfl); simp only [Act.put, List.setIfInBounds_toArray, List.set_cons_zero, List.set_cons_succ]) | (refine wpPi_off (by rfl) ?_; simp only [Act.put, List.setIfInBounds_toArray, List.set_cons_zero, List.set_cons_succ]))
  refine wpPi_nil ?_
  go_wp2_with fail
  go_ret
  obtain ⟨os, hos⟩ := Hfin.out
  refine ⟨rfl, 1, os ++ #[.cells #[.int .i64 c0, .int .i64 c1, .int .i64 c2] 3], ?_⟩
  rw [alloc_eq_grow, hos, drew_grow, grow_grow]
  rfl

/-- Tables in order: by level, then first, then file. -/
def ltT (a b : Tb) : Prop := a.level < b.level ∨ (a.level = b.level ∧ (a.first.toList < b.first.toList ∨ (a.first.toList = b.first.toList ∧ a.file < b.file)))

theorem cmpS_neg (x y : ByteArray) : cmpS x y < 0 ↔ x.toList < y.toList := by
  unfold cmpS
  rw [bytesLess_eq]
  by_cases h : x.toList < y.toList
  · simp [h]
  · simp only [h, decide_false, Bool.false_eq_true, if_false, iff_false, Int.not_lt]
    split <;> decide
theorem cmpS_zero (x y : ByteArray) : cmpS x y = 0 ↔ x.toList = y.toList := by
  unfold cmpS
  rw [bytesLess_eq]
  by_cases h : x.toList < y.toList
  · simp only [h, decide_true, if_true]
    constructor
    · intro e; cases e
    · intro e; rw [e] at h; exact absurd h (List.lt_irrefl _)
  · simp only [h, decide_false, Bool.false_eq_true, if_false]
    by_cases h2 : x.toList = y.toList
    · simp [h2]
    · simp [h2]

theorem cmpI_neg (x y : Int) : cmpI x y < 0 ↔ x < y := by
  unfold cmpI
  split
  · simp; assumption
  · split <;> simp <;> omega
theorem cmpI_zero (x y : Int) : cmpI x y = 0 ↔ x = y := by
  unfold cmpI
  split
  · simp; omega
  · split <;> simp <;> omega

theorem cfTb_neg (a b : Tb) : cfTb a b < 0 ↔ ltT a b := by
  unfold cfTb or3 ltT
  by_cases h1 : cmpI a.level b.level = 0
  · rw [if_pos h1]
    have e1 := (cmpI_zero _ _).1 h1
    by_cases h2 : cmpS a.first b.first = 0
    · rw [if_pos h2]
      have e2 := (cmpS_zero _ _).1 h2
      rw [cmpI_neg]
      constructor
      · intro h; exact .inr ⟨e1, .inr ⟨e2, h⟩⟩
      · rintro (h | ⟨_, h | ⟨_, h⟩⟩)
        · omega
        · rw [e2] at h; exact absurd h (List.lt_irrefl _)
        · exact h
    · rw [if_neg h2, cmpS_neg]
      constructor
      · intro h; exact .inr ⟨e1, .inl h⟩
      · rintro (h | ⟨_, h | ⟨e, _⟩⟩)
        · omega
        · exact h
        · exact absurd ((cmpS_zero _ _).2 e) h2
  · rw [if_neg h1, cmpI_neg]
    constructor
    · intro h; exact .inl h
    · rintro (h | ⟨e, _⟩)
      · exact h
      · exact absurd ((cmpI_zero _ _).2 e) h1

theorem ltB {a b : Tb} : ltOf cfTb a b = true ↔ ltT a b := by
  unfold ltOf
  rw [decide_eq_true_eq, cfTb_neg]
theorem ltBf {a b : Tb} : ltOf cfTb a b = false ↔ ¬ ltT a b := by
  rw [← ltB]; simp

theorem ltT_trans {x y z : Tb} (h1 : ltT x y) (h2 : ltT y z) : ltT x z := by
  rcases h1 with h1 | ⟨e1, h1⟩
  · rcases h2 with h2 | ⟨e2, h2⟩
    · exact .inl (by omega)
    · exact .inl (by omega)
  · rcases h2 with h2 | ⟨e2, h2⟩
    · exact .inl (by omega)
    · refine .inr ⟨by omega, ?_⟩
      rcases h1 with h1 | ⟨e3, h1⟩
      · rcases h2 with h2 | ⟨e4, h2⟩
        · exact .inl (List.lt_trans h1 h2)
        · exact .inl (by rw [← e4]; exact h1)
      · rcases h2 with h2 | ⟨e4, h2⟩
        · exact .inl (by rw [e3]; exact h2)
        · exact .inr ⟨e3.trans e4, by omega⟩

theorem ltT_tri (x y : Tb) (h1 : ¬ ltT x y) (h2 : ¬ ltT y x) : x.level = y.level ∧ x.first.toList = y.first.toList ∧ x.file = y.file := by
  have e1 : x.level = y.level := by
    have a1 : ¬ x.level < y.level := fun h => h1 (.inl h)
    have a2 : ¬ y.level < x.level := fun h => h2 (.inl h)
    omega
  have b1 : ¬ x.first.toList < y.first.toList := fun h => h1 (.inr ⟨e1, .inl h⟩)
  have b2 : ¬ y.first.toList < x.first.toList := fun h => h2 (.inr ⟨e1.symm, .inl h⟩)
  have e2 : x.first.toList = y.first.toList := List.le_antisymm (List.not_lt.1 b2) (List.not_lt.1 b1)
  refine ⟨e1, e2, ?_⟩
  have a1 : ¬ x.file < y.file := fun h => h1 (.inr ⟨e1, .inr ⟨e2, h⟩⟩)
  have a2 : ¬ y.file < x.file := fun h => h2 (.inr ⟨e1.symm, .inr ⟨e2.symm, h⟩⟩)
  omega

theorem swoTb : SWO (ltOf cfTb) where
  irrefl x := by
    rw [ltBf]
    rintro (h | ⟨_, h | ⟨_, h⟩⟩)
    · omega
    · exact List.lt_irrefl _ h
    · omega
  trans x y z h1 h2 := by rw [ltB] at *; exact ltT_trans h1 h2
  ntrans x y z h1 h2 := by
    rw [ltBf] at *
    intro h
    by_cases hyx : ltT y x
    · exact h2 (ltT_trans hyx h)
    · obtain ⟨e1, e2, e3⟩ := ltT_tri x y h1 hyx
      apply h2
      unfold ltT at h ⊢
      rw [← e1, ← e2, ← e3]
      exact h

theorem cmpLaysT (blk off size : Nat) (w : World) : CmpLays Tryd.prog 8 #[] encTb 5 cfTb blk off size w :=
  fun _ _ _ _ x y => compare_any x y _
end Go.Proofs.YtpdbjmodgiokmaaDoor
