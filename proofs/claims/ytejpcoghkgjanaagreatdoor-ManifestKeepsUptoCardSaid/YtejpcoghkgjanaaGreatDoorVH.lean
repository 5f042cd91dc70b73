/- Merged out of M1, M2, M3, M4, M5, M6, Mt, M9: helpers. -/
import Derived.Test.YtejpcoghkgjanaaGreatDoorRows
import Derived.Test.YtejpcoghkgjanaaGreatDoorVA
import Derived.Deep.QuietTactic
import Derived.BigQuiet
import Derived.Lib.Hide
import Derived.Laws.Cover1
import Derived.Sort.Grow
import Derived.Sort.Walk0
import Derived.Shelf.SlSortCmp.InsertionK
import Derived.Test.YtejpcoghkgjanaaGreatDoorVA2
import Derived.Test.YtejpcoghkgjanaaGreatDoorLayP
import Derived.Shelf.SlicesQ.IndexFunc
import Derived.Shelf.SlicesG.Turned
import Derived.Shelf.SlicesE.Clone
import Derived.Lib.SliceRun
/- Tables as data; cmp.Compare at int and string, cmp.Or at two and three, manifest.Compare. -/
namespace Go.Proofs.YtejpcoghkgjanaaGreatDoor.Mn
open Go.RowKit Go.Gl

/-- A table. -/
structure Tb where
  file : Int
  level : Int
  first : ByteArray
  last : ByteArray
  size : Int

instance : Inhabited Tb := ⟨⟨0, 0, ByteArray.empty, ByteArray.empty, 0⟩⟩

def encTb (t : Tb) : List Value := [.int .i64 t.file, .int .i64 t.level, .string t.first, .string t.last, .int .i64 t.size]
def tcells (l : List Tb) : List Value := l.flatMap encTb

def cmpI (x y : Int) : Int := if x < y then -1 else if y < x then 1 else 0
def cmpS (x y : ByteArray) : Int := if Op.bytesLess x.toList y.toList = true then -1 else if (x.toList == y.toList) = true then 0 else 1

theorem isNaN_int (x : Int) (w : World) : Calls Tryz.prog 121 #[.int .i64 x] w fun e w' => e = .returned (.bool false) ∧ w' = w := by
  have hb : (x != x) = false := by simp
  go_enter Tryz.func121, Tryz.ntmps121
  go_wp2
  go_ret
  exact ⟨rfl, rfl⟩

theorem isNaN_str (x : ByteArray) (w : World) : Calls Tryz.prog 122 #[.string x] w fun e w' => e = .returned (.bool false) ∧ w' = w := by
  go_enter Tryz.func122, Tryz.ntmps122
  go_wp2
  go_ret
  exact ⟨by simp, rfl⟩

theorem compare_int (x y : Int) (w : World) : Calls Tryz.prog 88 #[.int .i64 x, .int .i64 y] w fun e w' => e = .returned (.int .i64 (cmpI x y)) ∧ w' = w := by
  go_enter Tryz.func88, Tryz.ntmps88
  go_wp2_with (go_at_call 121; (with_reducible refine (isNaN_int _ _).mono ?_); rintro e w' ⟨rfl, rfl⟩)
  · rename_i h
    go_ret
    exact ⟨by rw [cmpI, if_pos h]; rfl, rfl⟩
  · rename_i h1 h2
    go_ret
    exact ⟨by rw [cmpI, if_neg (by omega), if_pos h2]; rfl, rfl⟩
  · rename_i h1 h2
    go_ret
    exact ⟨by rw [cmpI, if_neg (by omega), if_neg (by omega)]; rfl, rfl⟩

theorem compare_str (x y : ByteArray) (w : World) : Calls Tryz.prog 89 #[.string x, .string y] w fun e w' => e = .returned (.int .i64 (cmpS x y)) ∧ w' = w := by
  unfold cmpS
  cases h1 : Op.bytesLess x.toList y.toList with
  | true =>
    go_enter Tryz.func89, Tryz.ntmps89
    go_wp2_with (go_at_call 122; (with_reducible refine (isNaN_str _ _).mono ?_); rintro e w' ⟨rfl, rfl⟩)
    go_ret
    exact ⟨rfl, rfl⟩
  | false =>
    cases h2 : (x.toList == y.toList) with
    | true =>
      go_enter Tryz.func89, Tryz.ntmps89
      go_wp2_with (go_at_call 122; (with_reducible refine (isNaN_str _ _).mono ?_); rintro e w' ⟨rfl, rfl⟩)
      go_ret
      exact ⟨rfl, rfl⟩
    | false =>
      go_enter Tryz.func89, Tryz.ntmps89
      go_wp2_with (go_at_call 122; (with_reducible refine (isNaN_str _ _).mono ?_); rintro e w' ⟨rfl, rfl⟩)
      go_ret
      exact ⟨rfl, rfl⟩

/-- The first that is not nought. -/
def or3 (x y z : Int) : Int := if x = 0 then (if y = 0 then z else y) else x
def or2 (x y : Int) : Int := if x = 0 then y else x

theorem or_int3 (x y z : Int) (b : Nat) (w : World) (h0 : w.cell? ⟨b, 0, none⟩ = some (.int .i64 x)) (h1 : w.cell? ⟨b, 1, none⟩ = some (.int .i64 y)) (h2 : w.cell? ⟨b, 2, none⟩ = some (.int .i64 z)) :
    Calls Tryz.prog 54 #[.slice (some ⟨b, 0, none⟩) 3 3] w fun e w' => e = .returned (.int .i64 (or3 x y z)) ∧ w' = w := by
  unfold or3
  by_cases hx : x = 0
  · subst hx
    by_cases hy : y = 0
    · subst hy
      by_cases hz : z = 0
      · subst hz
        go_enter Tryz.func54, Tryz.ntmps54
        go_wp2
        refine wp_loop_rounds 4 ?_
        rw [rounds_succ]
        go_wp2
        rw [rounds_succ]
        go_wp2
        rw [rounds_succ]
        go_wp2
        rw [rounds_succ]
        go_wp2
        go_ret
        exact ⟨by simp, rfl⟩
      · have hb : (z != 0) = true := by simp [hz]
        go_enter Tryz.func54, Tryz.ntmps54
        go_wp2
        refine wp_loop_rounds 3 ?_
        rw [rounds_succ]
        go_wp2
        rw [rounds_succ]
        go_wp2
        rw [rounds_succ]
        go_wp2
        go_ret
        exact ⟨by simp, rfl⟩
    · have hb : (y != 0) = true := by simp [hy]
      go_enter Tryz.func54, Tryz.ntmps54
      go_wp2
      refine wp_loop_rounds 2 ?_
      rw [rounds_succ]
      go_wp2
      rw [rounds_succ]
      go_wp2
      go_ret
      exact ⟨by simp, rfl⟩
  · have hb : (x != 0) = true := by simp [hx]
    go_enter Tryz.func54, Tryz.ntmps54
    go_wp2
    refine wp_loop_rounds 1 ?_
    rw [rounds_succ]
    go_wp2
    go_ret
    exact ⟨by simp, rfl⟩

theorem or_int2 (x y : Int) (b : Nat) (w : World) (h0 : w.cell? ⟨b, 0, none⟩ = some (.int .i64 x)) (h1 : w.cell? ⟨b, 1, none⟩ = some (.int .i64 y)) :
    Calls Tryz.prog 54 #[.slice (some ⟨b, 0, none⟩) 2 2] w fun e w' => e = .returned (.int .i64 (or2 x y)) ∧ w' = w := by
  unfold or2
  by_cases hx : x = 0
  · subst hx
    by_cases hy : y = 0
    · subst hy
      go_enter Tryz.func54, Tryz.ntmps54
      go_wp2
      refine wp_loop_rounds 3 ?_
      rw [rounds_succ]
      go_wp2
      rw [rounds_succ]
      go_wp2
      rw [rounds_succ]
      go_wp2
      go_ret
      exact ⟨by simp, rfl⟩
    · have hb : (y != 0) = true := by simp [hy]
      go_enter Tryz.func54, Tryz.ntmps54
      go_wp2
      refine wp_loop_rounds 2 ?_
      rw [rounds_succ]
      go_wp2
      rw [rounds_succ]
      go_wp2
      go_ret
      exact ⟨by simp, rfl⟩
  · have hb : (x != 0) = true := by simp [hx]
    go_enter Tryz.func54, Tryz.ntmps54
    go_wp2
    refine wp_loop_rounds 1 ?_
    rw [rounds_succ]
    go_wp2
    go_ret
    exact ⟨by simp, rfl⟩

theorem or_u2 (x y : Int) (b : Nat) (w : World) (h0 : w.cell? ⟨b, 0, none⟩ = some (.int .u64 x)) (h1 : w.cell? ⟨b, 1, none⟩ = some (.int .u64 y)) :
    Calls Tryz.prog 53 #[.slice (some ⟨b, 0, none⟩) 2 2] w fun e w' => e = .returned (.int .u64 (or2 x y)) ∧ w' = w := by
  unfold or2
  by_cases hx : x = 0
  · subst hx
    by_cases hy : y = 0
    · subst hy
      go_enter Tryz.func53, Tryz.ntmps53
      go_wp2
      refine wp_loop_rounds 3 ?_
      rw [rounds_succ]
      go_wp2
      rw [rounds_succ]
      go_wp2
      rw [rounds_succ]
      go_wp2
      go_ret
      exact ⟨by simp, rfl⟩
    · have hb : (y != 0) = true := by simp [hy]
      go_enter Tryz.func53, Tryz.ntmps53
      go_wp2
      refine wp_loop_rounds 2 ?_
      rw [rounds_succ]
      go_wp2
      rw [rounds_succ]
      go_wp2
      go_ret
      exact ⟨by simp, rfl⟩
  · have hb : (x != 0) = true := by simp [hx]
    go_enter Tryz.func53, Tryz.ntmps53
    go_wp2
    refine wp_loop_rounds 1 ?_
    rw [rounds_succ]
    go_wp2
    go_ret
    exact ⟨by simp, rfl⟩

theorem run_buildInts3 (w : World) (x y z : Int) : (Instr.buildSlice 24 3 #[(0, .int .i64 x), (1, .int .i64 y), (2, .int .i64 z)]).run Tryz.prog w = .ok (.slice (some ⟨w.heap.size, 0, none⟩) 3 3) (w.alloc (.cells #[.int .i64 x, .int .i64 y, .int .i64 z] 3)) := by
  simp [Instr.buildSlice, run_underlying Tryz.underlying24, Tryz.sizeOf3, Tryz.zeroValue3, Instr.fill, newRow, Value.cells]
  congr 2
  apply Array.ext
  · simp
  · intro i h1 h2
    simp at h1
    match i, h1 with
    | 0, _ => simp
    | 1, _ => simp
    | 2, _ => simp

/-- What manifest.Compare says. -/
def cfTb (a b : Tb) : Int := or3 (cmpI a.level b.level) (cmpS a.first b.first) (cmpI a.file b.file)

theorem cells5 {w : World} {b : Nat} {x0 x1 x2 x3 x4 : Value} {t : TypeId} (h : w.heap[b]? = some (.cells #[x0, x1, x2, x3, x4] t (0, 0))) :
    w.cell? ⟨b, 0, none⟩ = some x0 ∧ w.cell? ⟨b, 1, none⟩ = some x1 ∧ w.cell? ⟨b, 2, none⟩ = some x2 ∧ w.cell? ⟨b, 3, none⟩ = some x3 ∧ w.cell? ⟨b, 4, none⟩ = some x4 := by
  simp [World.cell?, h]
end Go.Proofs.YtejpcoghkgjanaaGreatDoor.Mn

/- manifest.Compare, and that it orders tables. -/
namespace Go.Proofs.YtejpcoghkgjanaaGreatDoor.Mn
open Go.RowKit Go.Gl Go.Sort Go.Shelf

set_option maxHeartbeats 1000000 in
theorem compare_any (x y : Tb) (W : World) : Calls Tryz.prog 51 #[.agg (encTb x).toArray, .agg (encTb y).toArray] W fun e w' => e = .returned (.int .i64 (cfTb x y)) ∧ ∃ q os', w' = grow (W.drewN q) os' := by
  obtain ⟨x0, x1, x2, x3, x4⟩ := x
  obtain ⟨y0, y1, y2, y3, y4⟩ := y
  simp only [cfTb, encTb]
  have hc0 := compare_int x1 y1
  have hc1 := compare_str x2 y2
  have hc2 := compare_int x0 y0
  generalize cmpI x1 y1 = c0 at *
  generalize cmpS x2 y2 = c1 at *
  generalize cmpI x0 y0 = c2 at *
  have hor := or_int3 c0 c1 c2
  generalize or3 c0 c1 c2 = res at *
  have b0 : ((W.alloc (.cells #[.int .i64 x0, .int .i64 x1, .string x2, .string x3, .int .i64 x4] 51)).alloc (.cells #[.int .i64 y0, .int .i64 y1, .string y2, .string y3, .int .i64 y4] 51)).heap[W.heap.size]? = some (.cells #[.int .i64 x0, .int .i64 x1, .string x2, .string x3, .int .i64 x4] 51 (0, 0)) := (heap_alloc_old _ _ (by simp)).trans (heap_alloc_new _ _)
  have b1 : ((W.alloc (.cells #[.int .i64 x0, .int .i64 x1, .string x2, .string x3, .int .i64 x4] 51)).alloc (.cells #[.int .i64 y0, .int .i64 y1, .string y2, .string y3, .int .i64 y4] 51)).heap[W.heap.size + 1]? = some (.cells #[.int .i64 y0, .int .i64 y1, .string y2, .string y3, .int .i64 y4] 51 (0, 0)) := by
    have := heap_alloc_new (W.alloc (.cells #[.int .i64 x0, .int .i64 x1, .string x2, .string x3, .int .i64 x4] 51)) (.cells #[.int .i64 y0, .int .i64 y1, .string y2, .string y3, .int .i64 y4] 51)
    simpa using this
  obtain ⟨d0, d1, d2, _, _⟩ := cells5 b0
  obtain ⟨e0, e1, e2, _, _⟩ := cells5 b1
  have l0 := lt_of_getElem? b0
  have l1 := lt_of_getElem? b1
  have hfin : ∃ os, (W.alloc (.cells #[.int .i64 x0, .int .i64 x1, .string x2, .string x3, .int .i64 x4] 51)).alloc (.cells #[.int .i64 y0, .int .i64 y1, .string y2, .string y3, .int .i64 y4] 51) = grow W os := ⟨_, by rw [alloc_eq_grow, alloc_eq_grow, grow_grow]⟩
  have Hc0 := Lib.hid hc0
  have Hc1 := Lib.hid hc1
  have Hc2 := Lib.hid hc2
  have Hor := Lib.hid hor
  have Hfin := Lib.hid hfin
  clear b0 b1 hc0 hc1 hc2 hor hfin
  go_enter Tryz.func51, Tryz.ntmps51
  go_wp2_with fail
  generalize (W.alloc (.cells #[.int .i64 x0, .int .i64 x1, .string x2, .string x3, .int .i64 x4] 51)).alloc (.cells #[.int .i64 y0, .int .i64 y1, .string y2, .string y3, .int .i64 y4] 51) = w0 at *
  have hcl := Grow.cells (w := w0)
  refine wp_region_pi (fun V => Below w0.heap.size w0 V)
    [(0, false), (1, false), (2, false), (3, false), (5, false), (6, false), (7, false), (8, false), (10, false), (11, false), (12, false), (13, false), (4, true), (9, true), (14, true), (15, true), (16, true), (17, false)] (by kernel_rfl) (by kernel_rfl) (fun c a d v w h => by cases d <;> exact h) (by (repeat (first | exact Below.refl _ _ | assumption | refine Below.drew ?_ | refine bDrewN ?_ | refine Below.setCell ?_ (by first | omega | (simp <;> omega)) _ | refine Below.alloc ?_ (by first | omega | (simp <;> omega)) _))) ?_
  simp only [arrange, nth]
  repeat (first | (refine wpPi_quiet (v := ?_) (by rfl) (fun W hW => ?_) ?_; rotate_left; (obtain hW := hW; go_simp; with_reducible rfl); simp only [Act.put, List.setIfInBounds_toArray, List.set_cons_zero, List.set_cons_succ]) | (refine wpPi_off (by rfl) ?_; simp only [Act.put, List.setIfInBounds_toArray, List.set_cons_zero, List.set_cons_succ]))
  refine wpPi_call (by rfl) (by go_simp) (Hc0.out _) ?_
  rintro e w2 ⟨rfl, rfl⟩
  refine ⟨_, rfl, by (repeat (first | exact Below.refl _ _ | assumption | refine Below.drew ?_ | refine bDrewN ?_ | refine Below.setCell ?_ (by first | omega | (simp <;> omega)) _ | refine Below.alloc ?_ (by first | omega | (simp <;> omega)) _)), ?_⟩
  try simp only [Act.put, List.setIfInBounds_toArray, List.set_cons_zero, List.set_cons_succ]
  refine wpPi_call (by rfl) (by go_simp) (Hc1.out _) ?_
  rintro e w2 ⟨rfl, rfl⟩
  refine ⟨_, rfl, by (repeat (first | exact Below.refl _ _ | assumption | refine Below.drew ?_ | refine bDrewN ?_ | refine Below.setCell ?_ (by first | omega | (simp <;> omega)) _ | refine Below.alloc ?_ (by first | omega | (simp <;> omega)) _)), ?_⟩
  try simp only [Act.put, List.setIfInBounds_toArray, List.set_cons_zero, List.set_cons_succ]
  refine wpPi_call (by rfl) (by go_simp) (Hc2.out _) ?_
  rintro e w2 ⟨rfl, rfl⟩
  refine ⟨_, rfl, by (repeat (first | exact Below.refl _ _ | assumption | refine Below.drew ?_ | refine bDrewN ?_ | refine Below.setCell ?_ (by first | omega | (simp <;> omega)) _ | refine Below.alloc ?_ (by first | omega | (simp <;> omega)) _)), ?_⟩
  try simp only [Act.put, List.setIfInBounds_toArray, List.set_cons_zero, List.set_cons_succ]
  refine wpPi_run (by rfl) (v := .slice (some ⟨w0.drew.heap.size, 0, none⟩) 3 3) (w' := World.alloc w0.drew (.cells #[.int .i64 c0, .int .i64 c1, .int .i64 c2] 3)) ?_ (by (repeat (first | exact Below.refl _ _ | assumption | refine Below.drew ?_ | refine bDrewN ?_ | refine Below.setCell ?_ (by first | omega | (simp <;> omega)) _ | refine Below.alloc ?_ (by first | omega | (simp <;> omega)) _))) ?_
  · unfold execOp
    simp only [Act.eval]
    simp [run_buildInts3]
  try simp only [Act.put, List.setIfInBounds_toArray, List.set_cons_zero, List.set_cons_succ]
  refine wpPi_call (by rfl) (by go_simp) (Hor.out w0.drew.heap.size (World.alloc w0.drew (.cells #[.int .i64 c0, .int .i64 c1, .int .i64 c2] 3)) (by unfold World.cell?; rw [heap_alloc_new]; rfl) (by unfold World.cell?; rw [heap_alloc_new]; rfl) (by unfold World.cell?; rw [heap_alloc_new]; rfl)) ?_
  rintro e w2 ⟨rfl, rfl⟩
  refine ⟨_, rfl, by (repeat (first | exact Below.refl _ _ | assumption | refine Below.drew ?_ | refine bDrewN ?_ | refine Below.setCell ?_ (by first | omega | (simp <;> omega)) _ | refine Below.alloc ?_ (by first | omega | (simp <;> omega)) _)), ?_⟩
  try simp only [Act.put, List.setIfInBounds_toArray, List.set_cons_zero, List.set_cons_succ]
  repeat (first | (refine wpPi_quiet (v := ?_) (by rfl) (fun W hW => ?_) ?_; rotate_left; (obtain hW := hW; go_simp; with_reducible rfl); simp only [Act.put, List.setIfInBounds_toArray, List.set_cons_zero, List.set_cons_succ]) | (refine wpPi_off (by rfl) ?_; simp only [Act.put, List.setIfInBounds_toArray, List.set_cons_zero, List.set_cons_succ]))
  refine wpPi_nil ?_
  go_wp2_with fail
  go_ret
  obtain ⟨os, hos⟩ := Hfin.out
  refine ⟨rfl, 1, os ++ #[.cells #[.int .i64 c0, .int .i64 c1, .int .i64 c2] 3], ?_⟩
  rw [alloc_eq_grow, hos, drew_grow, grow_grow]
  rfl

/-- Tables in order: by level, then first, then file. -/
def ltT (a b : Tb) : Prop := a.level < b.level ∨ (a.level = b.level ∧ (a.first.toList < b.first.toList ∨ (a.first.toList = b.first.toList ∧ a.file < b.file)))

theorem cmpS_neg (x y : ByteArray) : cmpS x y < 0 ↔ x.toList < y.toList := by
  unfold cmpS
  rw [bytesLess_eq]
  by_cases h : x.toList < y.toList
  · simp [h]
  · simp only [h, decide_false, Bool.false_eq_true, if_false, iff_false, Int.not_lt]
    split <;> decide
theorem cmpS_zero (x y : ByteArray) : cmpS x y = 0 ↔ x.toList = y.toList := by
  unfold cmpS
  rw [bytesLess_eq]
  by_cases h : x.toList < y.toList
  · simp only [h, decide_true, if_true]
    constructor
    · intro e; cases e
    · intro e; rw [e] at h; exact absurd h (List.lt_irrefl _)
  · simp only [h, decide_false, Bool.false_eq_true, if_false]
    by_cases h2 : x.toList = y.toList
    · simp [h2]
    · simp [h2]

theorem cmpI_neg (x y : Int) : cmpI x y < 0 ↔ x < y := by
  unfold cmpI
  split
  · simp; assumption
  · split <;> simp <;> omega
theorem cmpI_zero (x y : Int) : cmpI x y = 0 ↔ x = y := by
  unfold cmpI
  split
  · simp; omega
  · split <;> simp <;> omega

theorem cfTb_neg (a b : Tb) : cfTb a b < 0 ↔ ltT a b := by
  unfold cfTb or3 ltT
  by_cases h1 : cmpI a.level b.level = 0
  · rw [if_pos h1]
    have e1 := (cmpI_zero _ _).1 h1
    by_cases h2 : cmpS a.first b.first = 0
    · rw [if_pos h2]
      have e2 := (cmpS_zero _ _).1 h2
      rw [cmpI_neg]
      constructor
      · intro h; exact .inr ⟨e1, .inr ⟨e2, h⟩⟩
      · rintro (h | ⟨_, h | ⟨_, h⟩⟩)
        · omega
        · rw [e2] at h; exact absurd h (List.lt_irrefl _)
        · exact h
    · rw [if_neg h2, cmpS_neg]
      constructor
      · intro h; exact .inr ⟨e1, .inl h⟩
      · rintro (h | ⟨_, h | ⟨e, _⟩⟩)
        · omega
        · exact h
        · exact absurd ((cmpS_zero _ _).2 e) h2
  · rw [if_neg h1, cmpI_neg]
    constructor
    · intro h; exact .inl h
    · rintro (h | ⟨e, _⟩)
      · exact h
      · exact absurd ((cmpI_zero _ _).2 e) h1

theorem ltB {a b : Tb} : ltOf cfTb a b = true ↔ ltT a b := by
  unfold ltOf
  rw [decide_eq_true_eq, cfTb_neg]
theorem ltBf {a b : Tb} : ltOf cfTb a b = false ↔ ¬ ltT a b := by
  rw [← ltB]; simp

theorem ltT_trans {x y z : Tb} (h1 : ltT x y) (h2 : ltT y z) : ltT x z := by
  rcases h1 with h1 | ⟨e1, h1⟩
  · rcases h2 with h2 | ⟨e2, h2⟩
    · exact .inl (by omega)
    · exact .inl (by omega)
  · rcases h2 with h2 | ⟨e2, h2⟩
    · exact .inl (by omega)
    · refine .inr ⟨by omega, ?_⟩
      rcases h1 with h1 | ⟨e3, h1⟩
      · rcases h2 with h2 | ⟨e4, h2⟩
        · exact .inl (List.lt_trans h1 h2)
        · exact .inl (by rw [← e4]; exact h1)
      · rcases h2 with h2 | ⟨e4, h2⟩
        · exact .inl (by rw [e3]; exact h2)
        · exact .inr ⟨e3.trans e4, by omega⟩

theorem ltT_tri (x y : Tb) (h1 : ¬ ltT x y) (h2 : ¬ ltT y x) : x.level = y.level ∧ x.first.toList = y.first.toList ∧ x.file = y.file := by
  have e1 : x.level = y.level := by
    have a1 : ¬ x.level < y.level := fun h => h1 (.inl h)
    have a2 : ¬ y.level < x.level := fun h => h2 (.inl h)
    omega
  have b1 : ¬ x.first.toList < y.first.toList := fun h => h1 (.inr ⟨e1, .inl h⟩)
  have b2 : ¬ y.first.toList < x.first.toList := fun h => h2 (.inr ⟨e1.symm, .inl h⟩)
  have e2 : x.first.toList = y.first.toList := List.le_antisymm (List.not_lt.1 b2) (List.not_lt.1 b1)
  refine ⟨e1, e2, ?_⟩
  have a1 : ¬ x.file < y.file := fun h => h1 (.inr ⟨e1, .inr ⟨e2, h⟩⟩)
  have a2 : ¬ y.file < x.file := fun h => h2 (.inr ⟨e1.symm, .inr ⟨e2.symm, h⟩⟩)
  omega

theorem swoTb : SWO (ltOf cfTb) where
  irrefl x := by
    rw [ltBf]
    rintro (h | ⟨_, h | ⟨_, h⟩⟩)
    · omega
    · exact List.lt_irrefl _ h
    · omega
  trans x y z h1 h2 := by rw [ltB] at *; exact ltT_trans h1 h2
  ntrans x y z h1 h2 := by
    rw [ltBf] at *
    intro h
    by_cases hyx : ltT y x
    · exact h2 (ltT_trans hyx h)
    · obtain ⟨e1, e2, e3⟩ := ltT_tri x y h1 hyx
      apply h2
      unfold ltT at h ⊢
      rw [← e1, ← e2, ← e3]
      exact h

theorem cmpLaysT (blk off size : Nat) (w : World) : CmpLays Tryz.prog 51 #[] encTb 5 cfTb blk off size w :=
  fun _ _ _ _ x y => compare_any x y _
end Go.Proofs.YtejpcoghkgjanaaGreatDoor.Mn

/- Tables in memory: the sort, has, slices.Clone, slices.Contains, shared. -/
namespace Go.Proofs.YtejpcoghkgjanaaGreatDoor.Mn
open Go.RowKit Go.Gl

theorem enc5 (x : Tb) : (encTb x).length = 5 := rfl
theorem encOne (x : Tb) : ∀ v ∈ encTb x, v.oneCell' = true := fun v hv => by
  simp only [encTb, List.mem_cons, List.not_mem_nil, or_false] at hv
  rcases hv with rfl | rfl | rfl | rfl | rfl <;> rfl
theorem tcellsOne (l : List Tb) : ∀ v ∈ tcells l, v.oneCell' = true := fun v hv => by
  obtain ⟨x, _, h⟩ := List.mem_flatMap.1 hv
  exact encOne x v h

/-- A version's tables: a row of its own. -/
abbrev Own (B : Nat) (w : World) (v : Value) (l : List Tb) : Prop := w.ownsRow B 51 5 v l.length (tcells l)

/-- What the sort makes of tables. -/
def sortD (l : List Tb) : List Tb := (Sort.pdq (ltOf cfTb) l.toArray 0 l.toArray.size (Lib.bitLen l.toArray.size) true true).toList

theorem sortD_perm (l : List Tb) : (sortD l).Perm l := by
  have h := (Sort.pdq_sorts (ltOf cfTb) swoTb l.toArray 0 l.toArray.size (Lib.bitLen l.toArray.size) true true (Nat.zero_le _) (Nat.le_refl _) (Or.inl rfl)).1
  unfold sortD
  generalize Sort.pdq (ltOf cfTb) l.toArray 0 l.toArray.size (Lib.bitLen l.toArray.size) true true = d at *
  have h2 := h.2.2
  have hs := h.1
  have e1 : d.extract 0 l.toArray.size = d := by rw [← hs]; simp
  have e2 : l.toArray.extract 0 l.toArray.size = l.toArray := by simp
  rw [e1, e2] at h2
  exact h2

theorem sortD_sorted (l : List Tb) : (sortD l).Pairwise (fun x y => ¬ ltT y x) := by
  have h := (Sort.pdq_sorts (ltOf cfTb) swoTb l.toArray 0 l.toArray.size (Lib.bitLen l.toArray.size) true true (Nat.zero_le _) (Nat.le_refl _) (Or.inl rfl))
  unfold sortD
  generalize Sort.pdq (ltOf cfTb) l.toArray 0 l.toArray.size (Lib.bitLen l.toArray.size) true true = d at *
  have hs := h.1.1
  rw [List.pairwise_iff_getElem]
  intro i j hi hj hij
  simp only [Array.length_toList] at hi hj
  have := h.2 i j (Nat.zero_le _) hij (by omega)
  rw [getElem!_pos d i hi, getElem!_pos d j hj, ltBf] at this
  exact this

theorem sort_any {B : Nat} {w : World} {v : Value} {l : List Tb} (h : Own B w v l) (hlen : l.length < 1000000000) :
    Calls Tryz.prog 50 #[v, .func (.func 51) #[] #[]] w fun e w' => e = .returned (.tuple #[]) ∧ Own B w' v (sortD l) ∧ w.grownBy w' v.ownBlock := by
  have hsl : (sortD l).length = l.length := (sortD_perm l).length_eq
  rcases h.2 with ⟨rfl, h0⟩ | ⟨g, cap, cur, rfl, hB, hg, hrest⟩
  · have hc := AnyF.slices_SortFunc_none Tryz.sortT none 0 (.func (.func 51) #[] #[]) w
    have hc' : Calls Tryz.prog 50 #[.slice none 0 0, .func (.func 51) #[] #[]] w _ := hc
    have hl : l = [] := List.eq_nil_of_length_eq_zero h0
    have hs : sortD l = [] := List.eq_nil_of_length_eq_zero (by rw [hsl]; exact h0)
    refine hc'.mono fun e w' ⟨he, hw⟩ => ⟨he, ?_, ?_⟩
    · rw [hw, hs]; exact World.ownsRow_nil _ _ _ _
    · rw [hw]; exact ⟨rfl, rfl, rfl, Nat.le_refl _, fun _ _ _ => rfl⟩
  · have eg : ∀ args w, (callFunc 51 args).run Tryz.prog w = .ok (.enter 51 args) w := enters_of Tryz.func51 (by kernel_rfl) rfl
    have hblk : g < w.heap.size := lt_of_getElem? hg
    have hcon := AnyQ.slices_SortFunc_eq Tryz.sortT 5 Tryz.isAgg51 Tryz.sizeOf51 encTb enc5 encOne cfTb swoTb 51 #[] g 0 cap l.toArray w eg (cmpLaysT g 0 l.toArray.size w) (holds_of_owns enc5 (by decide) h) hblk (by simp; omega)
    have hcon' : Calls Tryz.prog 50 #[.slice (some ⟨g, 0, none⟩) l.length cap, .func (.func 51) #[] #[]] w _ := hcon
    refine hcon'.mono fun e w' ⟨he, n, os, hw⟩ => ⟨he, ?_, ?_⟩
    · have h2 := owns_sortK enc5 (by decide) h n (Sort.pdq (ltOf cfTb) l.toArray 0 l.toArray.size (Lib.bitLen l.toArray.size) true true) os (by
        have := (Sort.pdq_sorts (ltOf cfTb) swoTb l.toArray 0 l.toArray.size (Lib.bitLen l.toArray.size) true true (Nat.zero_le _) (Nat.le_refl _) (Or.inl rfl)).1.1
        simpa using this)
      rw [hw]
      unfold Own
      rw [hsl]
      exact h2
    · rw [hw]; exact grown_sortK w g n _ os

/-- A row of ints that can be read. -/
def Ints (w : World) (v : Value) (ks : List Int) : Prop :=
  ∃ a c, v = .slice a ks.length c ∧ ks.length ≤ c ∧ (ks = [] ∨ ∃ b o, a = some ⟨b, o, none⟩ ∧ b < w.heap.size ∧ ∀ (j : Nat) (k : Int), ks[j]? = some k → w.cell? ⟨b, o + j, none⟩ = some (.int .i64 k))

theorem Ints.grow {w w' : World} {v : Value} {ks : List Int} (h : Ints w v ks) (hg : Grow w w') : Ints w' v ks := by
  obtain ⟨a, c, hv, hl, h⟩ := h
  refine ⟨a, c, hv, hl, ?_⟩
  rcases h with h | ⟨b, o, ha, hb, hc⟩
  · exact .inl h
  · refine .inr ⟨b, o, ha, Nat.lt_of_lt_of_le hb hg.size, fun j k hk => ?_⟩
    rw [Grow.cells _ _ _ hg hb]; exact hc j k hk

theorem contains_some (w : World) (b o n c : Nat) (ks : List Int) (x : Int) (hn : n ≤ ks.length) (hmax : ks.length ≤ 1000000000) (hc : ∀ (j : Nat) (k : Int), ks[j]? = some k → w.cell? ⟨b, o + j, none⟩ = some (.int .i64 k)) :
    Calls Tryz.prog 47 #[.slice (some ⟨b, o, none⟩) n c, .int .i64 x] w fun e w' => e = .returned (.bool ((ks.take n).contains x)) ∧ w' = w := by
  have h := AnyG.slices_Contains_int Tryz.contI b o n c ks x w hn (by omega) (fun j hj => by
    rw [hc j ks[j] (by simp [hj])]
    simp [List.getD, hj])
  exact h

theorem contains_none (w : World) (a : Option Addr) (c : Nat) (x : Int) : Calls Tryz.prog 47 #[.slice a 0 c, .int .i64 x] w fun e w' => e = .returned (.bool false) ∧ w' = w :=
  AnyG.slices_Contains_int_empty Tryz.contI a c x w

theorem contains_any {w : World} {v : Value} {ks : List Int} (h : Ints w v ks) (hmax : ks.length ≤ 1000000000) (x : Int) : Calls Tryz.prog 47 #[v, .int .i64 x] w fun e w' => e = .returned (.bool (ks.contains x)) ∧ w' = w := by
  obtain ⟨a, c, rfl, _, h⟩ := h
  cases ks with
  | nil => exact contains_none w a c x
  | cons k ks =>
    rcases h with h | ⟨b, o, rfl, hb, hc⟩
    · cases h
    · have := contains_some w b o (k :: ks).length c (k :: ks) x (Nat.le_refl _) hmax hc
      rw [List.take_length] at this
      exact this

/-- Has a table of some a file? -/
def hasF (l : List Tb) (f : Int) : Bool := l.any fun t => decide (t.file = f)

theorem has_clo (f : Int) (B : Nat) (w : World) (hB : B < w.heap.size) (hcell : w.cell? ⟨B, 0, none⟩ = some (.int .i64 f)) :
    PredBelow Tryz.prog 84 #[.pointer (some ⟨B, 0, none⟩)] (fun x => .agg (encTb x).toArray) (fun x => decide (x.file = f)) w := fun W x hb => by
  have hc : W.cell? ⟨B, 0, none⟩ = some (.int .i64 f) := (hb.cell (p := ⟨B, 0, none⟩) hB).trans hcell
  have hBW : B < W.heap.size := Nat.lt_of_lt_of_le hB hb.size
  have hne : B ≠ W.heap.size := by omega
  obtain ⟨x0, x1, x2, x3, x4⟩ := x
  show Calls Tryz.prog 84 #[.agg #[.int .i64 x0, .int .i64 x1, .string x2, .string x3, .int .i64 x4], .pointer (some ⟨B, 0, none⟩)] W _
  have hd : decide (x0 = f) = (x0 == f) := by by_cases h : x0 = f <;> simp [h]
  simp only [hd]
  go_enter Tryz.func84, Tryz.ntmps84
  go_wp2
  go_ret
  exact ⟨rfl, hb.alloc hb.size _⟩

theorem idxF_none (w : World) (a : Option Addr) (c : Nat) (fv : Value) : Calls Tryz.prog 86 #[.slice a 0 c, fv] w fun e w' => e = .returned (.int .i64 (-1)) ∧ w' = w := by
  go_enter Tryz.func86, Tryz.ntmps86
  go_wp2
  refine wp_loop_rounds 1 ?_
  rw [rounds_succ]
  go_wp2
  go_ret
  exact ⟨rfl, rfl⟩

theorem contF_none (w : World) (a : Option Addr) (c : Nat) (fv : Value) : Calls Tryz.prog 83 #[.slice a 0 c, fv] w fun e w' => e = .returned (.bool false) ∧ Below w.heap.size w w' := by
  go_enter Tryz.func83, Tryz.ntmps83
  go_wp2_with fail
  (with_reducible refine (idxF_none _ _ _ _).mono ?_)
  rintro e w' ⟨rfl, rfl⟩
  go_wp2
  go_ret
  exact ⟨rfl, Below.refl _ _⟩

theorem has_any {B : Nat} {w : World} {v : Value} {l : List Tb} (h : Own B w v l) (hlen : l.length < 1000000000) (f : Int) :
    Calls Tryz.prog 46 #[v, .int .i64 f] w fun e w' => e = .returned (.bool (hasF l f)) ∧ Grow w w' := by
  have hg0 : Grow w (w.alloc (.cells #[.int .i64 f] 3)) := Grow.alloc _ _
  have hbx : (w.alloc (.cells #[.int .i64 f] 3)).cell? ⟨w.heap.size, 0, none⟩ = some (.int .i64 f) := by simp
  have hcon : Calls Tryz.prog 83 #[v, .func (.func 84) #[] #[.pointer (some ⟨w.heap.size, 0, none⟩)]] (w.alloc (.cells #[.int .i64 f] 3)) fun e w' => e = .returned (.bool (hasF l f)) ∧ Below (w.alloc (.cells #[.int .i64 f] 3)).heap.size (w.alloc (.cells #[.int .i64 f] 3)) w' := by
    rcases h.2 with ⟨rfl, h0⟩ | ⟨g, cap, cur, rfl, hB, hg, hrest⟩
    · have hl : l = [] := List.eq_nil_of_length_eq_zero h0
      rw [hl]
      exact contF_none _ _ _ _
    · have eg : ∀ args w, (callFunc 84 args).run Tryz.prog w = .ok (.enter 84 args) w := enters_of Tryz.func84 (by kernel_rfl) rfl
      have hblk : g < w.heap.size := lt_of_getElem? hg
      have hrd := (rd_of_owns enc5 h).grow hblk hg0
      have hcc := AnyQ.slices_ContainsFunc Tryz.contF 5 Tryz.isAgg51 Tryz.sizeOf51 encTb enc5 (fun x => decide (x.file = f)) 84 #[.pointer (some ⟨w.heap.size, 0, none⟩)] eg g 0 l.length cap l (w.alloc (.cells #[.int .i64 f] 3))
        (has_clo f w.heap.size _ (by simp) hbx) (Nat.le_refl _) (by omega) (by simp; omega) (fun j hj i u hu => hrd j l[j]! (by rw [getElem!_pos l j hj]; simp [hj]) i u hu)
      rw [List.take_length] at hcc
      exact hcc
  have Hcon := Lib.hid hcon
  have Hg0 := Lib.hid hg0
  obtain ⟨va, vn, vc, rfl⟩ : ∃ a n c, v = .slice a n c := by
    rcases h.2 with ⟨rfl, h0⟩ | ⟨g, cap, cur, rfl, _⟩ <;> exact ⟨_, _, _, rfl⟩
  generalize hasF l f = r at *
  clear h hcon hg0 hbx
  go_enter Tryz.func46, Tryz.ntmps46
  go_wp2_with fail
  (with_reducible refine Hcon.out.mono ?_)
  rintro e w' ⟨rfl, hg⟩
  go_wp2
  go_ret
  exact ⟨rfl, Hg0.out.trans hg⟩

theorem Tryz.infoT : (Tryz.prog.info? 51).map (fun i => (i.zero, i.size, i.bytes)) = some (some (.agg #[.int .i64 0, .int .i64 0, .string ByteArray.empty, .string ByteArray.empty, .int .i64 0]), 5, 56) := by kernel_rfl

/-- slices.Clone of a version's tables: a row that is the call's own. -/
theorem clone_any {B : Nat} {w : World} {v : Value} {l : List Tb} (h : Own B w v l) (hlen : l.length < 1000000000) :
    Calls Tryz.prog 45 #[v] w fun e w' => ∃ v', e = .returned v' ∧ Own w.heap.size w' v' l ∧ Grow w w' := by
  rcases h.2 with ⟨rfl, h0⟩ | ⟨g, cap, cur, rfl, hB, hg, hrest⟩
  · have hl : l = [] := List.eq_nil_of_length_eq_zero h0
    subst hl
    have hc : Calls Tryz.prog 45 #[.slice none 0 0] w _ := AnyE.slices_Clone_nil Tryz.cloneT 0 0 w
    exact hc.mono fun e w' ⟨he, hw⟩ => ⟨_, he, World.ownsRow_nil _ _ _ _, by rw [hw]; exact Grow.refl _⟩
  · obtain ⟨i0, hi0, hz0, hz1, hz2⟩ := info_parts Tryz.infoT
    have hc : Calls Tryz.prog 45 #[.slice (some ⟨g, 0, none⟩) l.length cap] w _ := AnyE.slices_Clone Tryz.cloneT i0 _ 5 56 hi0 hz0 hz1 hz2 rfl (by decide) Tryz.sizeOf51 g 0 l.length cap (tcells l) w h.1 (by unfold maxLen; omega) (by omega)
      (fun j u hu => by
        have hj : j < l.length * 5 := by have := (List.getElem?_eq_some_iff.1 hu).1; rw [h.1] at this; exact this
        rw [Nat.zero_add, h.cellAt j hj, hu]) (tcellsOne l)
    exact hc.mono fun e w' ⟨v', he, ho, _, hb⟩ => ⟨v', he, ho, hb⟩
end Go.Proofs.YtejpcoghkgjanaaGreatDoor.Mn

/- slices.DeleteFunc at tables, with the closure of apply: the tables whose files are not to be dropped. -/
namespace Go.Proofs.YtejpcoghkgjanaaGreatDoor.Mn
open Go.RowKit Go.Gl

theorem setCell_heap {w : World} {b : Nat} {cur : Array Value} {t : TypeId} {f : Nat × Nat} (h : w.heap[b]? = some (.cells cur t f)) (o : Nat) (v : Value) : (w.setCell ⟨b, o, none⟩ v).heap[b]? = some (.cells (cur.setIfInBounds o v) t f) := by
  simp only [World.setCell]
  rw [Array.getElem?_modify, h]
  simp

theorem grown_setCell (w : World) (b o : Nat) (v : Value) : w.grownBy (w.setCell ⟨b, o, none⟩ v) (some b) := ⟨rfl, rfl, rfl, by simp, fun k _ hk => Below.heap_setCell _ _ _ _ (fun e => hk (by rw [e]))⟩

theorem grown_trans {w1 w2 w3 : World} {r : Option Nat} (h : w1.grownBy w2 r) (k : w2.grownBy w3 r) : w1.grownBy w3 r :=
  ⟨k.os.trans h.os, k.tape.trans h.tape, k.output.trans h.output, Nat.le_trans h.size k.size, fun b hb hne => by rw [k.block b (Nat.lt_of_lt_of_le hb h.size) hne, h.block b hb hne]⟩

/-- Cells of one block are set: all else is as it was. -/
theorem setCells_block {b : Nat} : ∀ (cs : List Value) (o : Nat) (w : World) (cur : Array Value) (t : TypeId) (f : Nat × Nat), w.heap[b]? = some (.cells cur t f) →
    ∃ cur', (w.setCells b o cs).heap[b]? = some (.cells cur' t f) ∧ cur'.size = cur.size ∧ (∀ m, m ≤ o → cur'.toList.take m = cur.toList.take m) ∧ w.grownBy (w.setCells b o cs) (some b)
  | [], o, w, cur, t, f, h => ⟨cur, h, rfl, fun _ _ => rfl, ⟨rfl, rfl, rfl, Nat.le_refl _, fun _ _ _ => rfl⟩⟩
  | v :: cs, o, w, cur, t, f, h => by
    have h1 := setCell_heap h o v
    obtain ⟨cur', e1, e2, e3, e4⟩ := setCells_block cs (o + 1) _ _ t f h1
    refine ⟨cur', e1, by simpa using e2, fun m hm => ?_, ?_⟩
    · rw [e3 m (by omega)]
      simp [Array.toList_setIfInBounds, List.take_set_of_le, hm]
    · exact grown_trans (grown_setCell w b o v) e4

theorem tcells_set : ∀ (d : List Tb) (i : Nat) (t : Tb), i < d.length → tcells (d.set i t) = (((((tcells d).set (i * 5) (.int .i64 t.file)).set (i * 5 + 1) (.int .i64 t.level)).set (i * 5 + 2) (.string t.first)).set (i * 5 + 3) (.string t.last)).set (i * 5 + 4) (.int .i64 t.size)
  | [], i, t, h => by simp at h
  | x :: d, 0, t, _ => by simp [tcells, encTb]
  | x :: d, i + 1, t, h => by
    have ih := tcells_set d i t (by simpa using h)
    have e : ∀ c, (i + 1) * 5 + c = (i * 5 + c) + 1 + 1 + 1 + 1 + 1 := fun c => by omega
    have e0 : (i + 1) * 5 = (i * 5) + 1 + 1 + 1 + 1 + 1 := by omega
    have hx : tcells (x :: d) = .int .i64 x.file :: .int .i64 x.level :: .string x.first :: .string x.last :: .int .i64 x.size :: tcells d := rfl
    rw [List.set_cons_succ, hx, e 1, e 2, e 3, e 4, e0]
    simp only [List.set_cons_succ]
    rw [← ih]
    rfl

/-- A table is laid over another. -/
theorem own_set {B : Nat} {w : World} {g n cap : Nat} {d : List Tb} (h : w.ownsRow B 51 5 (.slice (some ⟨g, 0, none⟩) n cap) n (tcells d)) (hd : d.length = n) {i : Nat} (hi : i < n) (t : Tb) {w' : World}
    (hw' : w' = ((((w.setCell ⟨g, i * 5, none⟩ (.int .i64 t.file)).setCell ⟨g, i * 5 + 1, none⟩ (.int .i64 t.level)).setCell ⟨g, i * 5 + 2, none⟩ (.string t.first)).setCell ⟨g, i * 5 + 3, none⟩ (.string t.last)).setCell ⟨g, i * 5 + 4, none⟩ (.int .i64 t.size)) :
    w'.ownsRow B 51 5 (.slice (some ⟨g, 0, none⟩) n cap) n (tcells (d.set i t)) ∧ w.grownBy w' (some g) := by
  rcases h.2 with ⟨e1, _⟩ | ⟨g', cap', cur, e1, hB, hg, hn, hm, hs, ht⟩
  · cases e1
  · cases e1
    subst hw'
    refine ⟨⟨by rw [← hd]; have := flat_len enc5 (d.set i t); rw [List.length_set] at this; exact this, .inr ⟨g, cap, ((((cur.setIfInBounds (i * 5) (.int .i64 t.file)).setIfInBounds (i * 5 + 1) (.int .i64 t.level)).setIfInBounds (i * 5 + 2) (.string t.first)).setIfInBounds (i * 5 + 3) (.string t.last)).setIfInBounds (i * 5 + 4) (.int .i64 t.size), rfl, hB, ?_, hn, hm, by simpa using hs, ?_⟩⟩, ?_⟩
    · exact setCell_heap (setCell_heap (setCell_heap (setCell_heap (setCell_heap hg _ _) _ _) _ _) _ _) _ _
    · rw [tcells_set d i t (by omega), ← ht]
      simp only [Array.toList_setIfInBounds, List.take_set]
    · exact grown_trans (grown_trans (grown_trans (grown_trans (grown_setCell _ _ _ _) (grown_setCell _ _ _ _)) (grown_setCell _ _ _ _)) (grown_setCell _ _ _ _)) (grown_setCell _ _ _ _)

theorem zeroT (w : World) : (zeroValue 51).run Tryz.prog w = .ok (.agg #[.int .i64 0, .int .i64 0, .string ByteArray.empty, .string ByteArray.empty, .int .i64 0]) w := by kernel_rfl

theorem run_clearT (w : World) (g o n c : Nat) (hn : 0 < n) (hc : ∀ j, j < n * 5 → (w.cell? ⟨g, o + j, none⟩).isSome = true) (hf : ∀ j, j < n * 5 → w.frozen? ⟨g, o + j, none⟩ = false) :
    ∃ cs, (Builtin.clear_ #[35] 0 #[.slice (some ⟨g, o, none⟩) n c]).run Tryz.prog w = .ok (.tuple #[]) (w.setCells g o cs) := by
  obtain ⟨za, hza, hsz, hone⟩ : ∃ za : Array Value, (∀ w, (zeroValue 51).run Tryz.prog w = .ok (.agg za) w) ∧ za.size = 5 ∧ ∀ i, i < 5 → (za[i]!).oneCell' = true := ⟨_, zeroT, rfl, fun i hi => by
    match i, hi with
    | 0, _ => rfl
    | 1, _ => rfl
    | 2, _ => rfl
    | 3, _ => rfl
    | 4, _ => rfl⟩
  have hlen : (Builtin.zeroCells za n).toList.length = n * 5 := by
    rw [Array.length_toList, size_zeroCells, hsz]
  have hst := run_storeCells_cells (P := Tryz.prog) g o (Builtin.zeroCells za n).toList 0 w (by rw [hlen]; simpa using hc) (by rw [hlen]; simpa using hf) (by
    intro v hv
    obtain ⟨i, hi, rfl⟩ := List.mem_iff_getElem.1 hv
    simp only [Builtin.zeroCells, Array.toList_map, List.getElem_map]
    have := hone (i % 5) (Nat.mod_lt _ (by decide))
    simpa [hsz] using this)
  simp only [Nat.add_zero] at hst
  obtain ⟨m, rfl⟩ : ∃ m, n = m + 1 := ⟨n - 1, by omega⟩
  refine ⟨(Builtin.zeroCells za (m + 1)).toList, ?_⟩
  simp [Builtin.clear_, run_underlying Tryz.underlying35, hza, Value.cells, hst]

/-- The closure of apply: is a table's file to be dropped? -/
theorem del_clo {w : World} {eb : Nat} {av dv : Value} {s n wl : Int} {ks : List Int} (hb : w.heap[eb]? = some (.cells #[av, dv, .int .u64 s, .int .i64 n, .int .i64 wl] 41 (0, 0))) (hd : Ints w dv ks) (hks : ks.length ≤ 1000000000) (x : Tb) :
    Calls Tryz.prog 49 #[.agg (encTb x).toArray, .pointer (some ⟨eb, 0, none⟩)] w fun e w' => e = .returned (.bool (ks.contains x.file)) ∧ Grow w w' := by
  obtain ⟨x0, x1, x2, x3, x4⟩ := x
  obtain ⟨c0, c1, c2, c3, c4⟩ := cells5 hb
  have hlt := lt_of_getElem? hb
  have hne : eb ≠ w.heap.size := by omega
  have hcon := contains_any (hd.grow (Grow.alloc w (.cells #[.int .i64 x0, .int .i64 x1, .string x2, .string x3, .int .i64 x4] 51))) hks x0
  obtain ⟨da, dc, rfl, _⟩ := hd
  have Hcon := Lib.hid hcon
  simp only [encTb]
  generalize ks.contains x0 = r at *
  clear hcon hb
  go_enter Tryz.func49, Tryz.ntmps49
  go_wp2_with fail
  (with_reducible refine Hcon.out.mono ?_)
  rintro e w' ⟨rfl, rfl⟩
  go_wp2
  go_ret
  exact ⟨rfl, Grow.alloc _ _⟩

/-- Tables whose files are not to be dropped. -/
def keepT (ks : List Int) (t : Tb) : Bool := !ks.contains t.file

def DelInv (B : Nat) (w : World) (g n cap : Nat) (l : List Tb) (ks : List Int) (iv jv : Value) (wr : World) : Prop :=
  ∃ (i j : Nat) (d : List Tb), iv = .int .i64 i ∧ jv = .int .i64 j ∧ i < j ∧ j ≤ n ∧ d.length = n ∧ wr.ownsRow B 51 5 (.slice (some ⟨g, 0, none⟩) n cap) n (tcells d) ∧ d.take i = (l.take j).filter (keepT ks) ∧ d.drop j = l.drop j ∧ Below B w wr

theorem take_snocT {α : Type} {l : List α} {j : Nat} {x : α} (h : l[j]? = some x) : l.take (j + 1) = l.take j ++ [x] := by
  obtain ⟨hi, rfl⟩ := List.getElem?_eq_some_iff.1 h
  rw [List.take_succ_eq_append_getElem hi]

theorem idx_of {l : List Tb} {p : Tb → Bool} : (Lib.idxBy (fun _ y => p y) l default = -1 ∧ ∀ x ∈ l, p x = false) ∨ ∃ (i : Nat) (x : Tb), Lib.idxBy (fun _ y => p y) l default = (i : Int) ∧ l[i]? = some x ∧ p x = true ∧ ∀ y ∈ l.take i, p y = false := by
  have gen : ∀ (l : List Tb) (s : Nat), (Lib.idxByFrom (fun _ y => p y) default l s = -1 ∧ ∀ x ∈ l, p x = false) ∨ ∃ (i : Nat) (x : Tb), Lib.idxByFrom (fun _ y => p y) default l s = ((s + i : Nat) : Int) ∧ l[i]? = some x ∧ p x = true ∧ ∀ y ∈ l.take i, p y = false := by
    intro l
    induction l with
    | nil => intro s; exact .inl ⟨rfl, (fun x hx => by cases hx)⟩
    | cons z l ih =>
      intro s
      cases hz : p z with
      | true => exact .inr ⟨0, z, by simp [Lib.idxByFrom, hz], rfl, hz, (fun y hy => by simp at hy)⟩
      | false =>
        have e : Lib.idxByFrom (fun _ y => p y) default (z :: l) s = Lib.idxByFrom (fun _ y => p y) default l (s + 1) := by simp [Lib.idxByFrom, hz]
        rw [e]
        rcases ih (s + 1) with ⟨h1, h2⟩ | ⟨i, x, h1, h2, h3, h4⟩
        · refine .inl ⟨h1, fun x hx => ?_⟩
          rcases List.mem_cons.1 hx with rfl | hx
          · exact hz
          · exact h2 x hx
        · refine .inr ⟨i + 1, x, by rw [h1]; congr 1; omega, by simpa using h2, h3, fun y hy => ?_⟩
          rw [List.take_succ_cons] at hy
          rcases List.mem_cons.1 hy with rfl | hy
          · exact hz
          · exact h4 y hy
  rcases gen l 0 with h | ⟨i, x, h1, h2⟩
  · exact .inl h
  · exact .inr ⟨i, x, by unfold Lib.idxBy; rw [h1]; congr 1; omega, h2⟩

theorem own_cells {w : World} {B g n cap : Nat} {d : List Tb} (h : w.ownsRow B 51 5 (.slice (some ⟨g, 0, none⟩) n cap) n (tcells d)) (hd : d.length = n) {j : Nat} {t : Tb} (ht : d[j]? = some t) :
    w.cell? ⟨g, j * 5, none⟩ = some (.int .i64 t.file) ∧ w.cell? ⟨g, j * 5 + 1, none⟩ = some (.int .i64 t.level) ∧ w.cell? ⟨g, j * 5 + 2, none⟩ = some (.string t.first) ∧ w.cell? ⟨g, j * 5 + 3, none⟩ = some (.string t.last) ∧ w.cell? ⟨g, j * 5 + 4, none⟩ = some (.int .i64 t.size) := by
  subst hd
  have h1 := rd_of_owns enc5 h j t ht
  have k0 := h1 0 _ rfl
  have k1 := h1 1 _ rfl
  have k2 := h1 2 _ rfl
  have k3 := h1 3 _ rfl
  have k4 := h1 4 _ rfl
  simp only [Nat.zero_add, Nat.add_zero] at k0 k1 k2 k3 k4
  exact ⟨k0, k1, k2, k3, k4⟩

theorem own_block {w : World} {B g n cap : Nat} {xs : List Value} (h : w.ownsRow B 51 5 (.slice (some ⟨g, 0, none⟩) n cap) n xs) : ∃ cur, w.heap[g]? = some (.cells cur 51 (0, 0)) ∧ B ≤ g ∧ n ≤ cap ∧ cap ≤ maxLen ∧ cur.size = cap * 5 ∧ cur.toList.take (n * 5) = xs := by
  rcases h.2 with ⟨e1, _⟩ | ⟨g', cap', cur, e1, h2⟩
  · cases e1
  · cases e1
    exact ⟨cur, h2.2.1, h2.1, h2.2.2.1, h2.2.2.2.1, h2.2.2.2.2.1, h2.2.2.2.2.2⟩

set_option maxRecDepth 100000 in
set_option maxHeartbeats 4000000 in
theorem del_some {B : Nat} {w : World} {g cap : Nat} {l : List Tb} (h : Own B w (.slice (some ⟨g, 0, none⟩) l.length cap) l) (hlen : l.length < 1000000000) (hBw : B ≤ w.heap.size) {eb : Nat} (heb : eb < B) {av dv : Value} {s n wl : Int} {ks : List Int} (hb : w.heap[eb]? = some (.cells #[av, dv, .int .u64 s, .int .i64 n, .int .i64 wl] 41 (0, 0)))
    {w0 : World} (hw0 : Below B w0 w) (hd : Ints w0 dv ks) (hB0 : w0.heap.size ≤ B) (hks : ks.length ≤ 1000000000) :
    Calls Tryz.prog 48 #[.slice (some ⟨g, 0, none⟩) l.length cap, .func (.func 49) #[] #[.pointer (some ⟨eb, 0, none⟩)]] w fun e w' => ∃ v', e = .returned v' ∧ Own B w' v' (l.filter (keepT ks)) ∧ Below B w w' := by
  have hclo : ∀ W, Below B w W → ∀ x : Tb, Calls Tryz.prog 49 #[.agg #[.int .i64 x.file, .int .i64 x.level, .string x.first, .string x.last, .int .i64 x.size], .pointer (some ⟨eb, 0, none⟩)] W fun e w' => e = .returned (.bool (ks.contains x.file)) ∧ Grow W w' := fun W hW x => by
    refine del_clo (av := av) (dv := dv) (s := s) (n := n) (wl := wl) ?_ ?_ hks x
    · rw [hW.block eb heb]; exact hb
    · have h1 := hw0.trans hW
      exact hd.grow (h1.mono hB0)
  obtain ⟨cur, hg, hBg, hn, hcm, hs, ht⟩ := own_block h
  have hglt := lt_of_getElem? hg
  have eg : ∀ args w, (callFunc 49 args).run Tryz.prog w = .ok (.enter 49 args) w := enters_of Tryz.func49 (by kernel_rfl) rfl
  have hrd := rd_of_owns enc5 h
  have hidx : Calls Tryz.prog 86 #[.slice (some ⟨g, 0, none⟩) l.length cap, .func (.func 49) #[] #[.pointer (some ⟨eb, 0, none⟩)]] w _ := AnyQ.slices_IndexFunc Tryz.idxF 5 Tryz.isAgg51 Tryz.sizeOf51 encTb enc5 (fun x => ks.contains x.file) 49 #[.pointer (some ⟨eb, 0, none⟩)] eg g 0 l.length cap l w
    (fun W x hW => (hclo W (hW.mono hBw) x).mono fun e w' ⟨he, hg⟩ => ⟨he, hW.trans (hg.mono hW.size)⟩) (Nat.le_refl _) (by omega) hglt (fun j hj i u hu => hrd j l[j]! (by rw [getElem!_pos l j hj]; simp [hj]) i u hu)
  rw [List.take_length] at hidx
  have Hidx := Lib.hid hidx
  have Hclo := Lib.hid hclo
  have H := Lib.hid h
  clear hidx hclo hb hw0 hd hrd ht hg
  rcases idx_of (l := l) (p := fun x => ks.contains x.file) with ⟨hm1, hno⟩ | ⟨i0, x0, hi0, hx0, hp0, hpre⟩
  · have hf : l.filter (keepT ks) = l := List.filter_eq_self.2 fun x hx => by simp only [keepT, hno x hx, Bool.not_false]
    rw [hm1] at Hidx
    have Hf := Lib.hid hf
    clear hm1 hno hf
    go_enter Tryz.func48, Tryz.ntmps48
    go_wp2_with fail
    (with_reducible refine Hidx.out.mono ?_)
    rintro e w1 ⟨rfl, hg1⟩
    go_wp2
    go_ret
    exact ⟨_, rfl, by rw [Hf.out]; exact owns_grow H.out hg1, hg1.mono hBw⟩
  · rw [hi0] at Hidx
    have hi0l : i0 < l.length := (List.getElem?_eq_some_iff.1 hx0).1
    have hstart : l.take i0 = (l.take (i0 + 1)).filter (keepT ks) := by
      rw [take_snocT hx0, List.filter_append]
      have e1 : (l.take i0).filter (keepT ks) = l.take i0 := List.filter_eq_self.2 fun y hy => by simp only [keepT, hpre y hy, Bool.not_false]
      have e2 : keepT ks x0 = false := by
        unfold keepT
        have : ks.contains x0.file = true := hp0
        rw [this]; rfl
      rw [e1, List.filter_cons_of_neg (by rw [e2]; decide), List.filter_nil, List.append_nil]
    have Hst := Lib.hid hstart
    have hne : ((i0 : Int) == -1) = false := by simp
    clear hi0 hx0 hp0 hpre hstart
    go_enter Tryz.func48, Tryz.ntmps48
    go_wp2_with fail
    (with_reducible refine Hidx.out.mono ?_)
    rintro e w1 ⟨rfl, hg1⟩
    have H1 := Lib.hid (owns_grow H.out hg1)
    have Hg1 := Lib.hid (hg1.mono hBw)
    clear hg1
    go_wp2_with fail
    go_loopw [5, 6] (fun iv jv wr => DelInv B w g l.length cap l ks iv jv wr) (fun _ jv _ => l.length - (intOf jv).toNat)
    case atStart => exact ⟨i0, i0 + 1, l, rfl, rfl, by omega, hi0l, rfl, H1.out, Hst.out, rfl, Hg1.out⟩
    case round =>
      obtain ⟨i, j, d, rfl, rfl, hij, hjl, hdl, hown, htk, hdr, hbel⟩ := hrel
      by_cases hlt : j < l.length
      · obtain ⟨t, ht⟩ : ∃ t, l[j]? = some t := ⟨l[j], by simp [hlt]⟩
        have hdj : d[j]? = some t := by
          have e1 : (d.drop j)[0]? = (l.drop j)[0]? := by rw [hdr]
          simpa [ht] using e1
        obtain ⟨t', ht'⟩ : ∃ t', d[i]? = some t' := ⟨d[i], by simp [show i < d.length by omega]⟩
        obtain ⟨c0, c1, c2, c3, c4⟩ := own_cells hown hdl hdj
        obtain ⟨cur, hgr, _⟩ := own_block hown
        have lg := lt_of_getElem? hgr
        have hj1 : (j : Int) < (l.length : Int) := by omega
        have hj0 : (0 : Int) ≤ (j : Int) := by omega
        have hi1 : (i : Int) < (l.length : Int) := by omega
        have hi00 : (0 : Int) ≤ (i : Int) := by omega
        have hwi : IntKind.i64.wrap ((i : Int) + 1) = (i : Int) + 1 := IntWalk.i64_in _ (by omega)
        have hwj : IntKind.i64.wrap ((j : Int) + 1) = (j : Int) + 1 := IntWalk.i64_in _ (by omega)
        obtain ⟨f0, f1, f2, f3, f4⟩ := t
        have hb1 : Below B w (wr.alloc (.cells #[.int .i64 f0, .int .i64 f1, .string f2, .string f3, .int .i64 f4] 51)) := hbel.alloc (Nat.le_trans hBw hbel.size) _
        have hcl := Hclo.out _ hb1 ⟨f0, f1, f2, f3, f4⟩
        have hbx : (wr.alloc (.cells #[.int .i64 f0, .int .i64 f1, .string f2, .string f3, .int .i64 f4] 51)).heap[wr.heap.size]? = some (.cells #[.int .i64 f0, .int .i64 f1, .string f2, .string f3, .int .i64 f4] 51 (0, 0)) := heap_alloc_new _ _
        have hga : Grow wr (wr.alloc (.cells #[.int .i64 f0, .int .i64 f1, .string f2, .string f3, .int .i64 f4] 51)) := Grow.alloc _ _
        have hts := take_snocT ht
        have Hcl := Lib.hid hcl
        have Hbx := Lib.hid hbx
        have Hga := Lib.hid hga
        have Hown := Lib.hid hown
        have Hdj := Lib.hid hdj
        have Hti := Lib.hid ht'
        have Htk := Lib.hid htk
        have Hdr := Lib.hid hdr
        have Hbel := Lib.hid hbel
        have Hb1 := Lib.hid hb1
        have Hts := Lib.hid hts
        clear hcl hbx hga hown hdj ht' htk hdr hbel hb1 hts ht hgr
        dsimp only at Hcl
        cases hc : ks.contains f0 with
        | true =>
          rw [hc] at Hcl
          have Hrel0 : Hid ((l.take (j + 1)).filter (keepT ks) = d.take i) := Lib.hid (by
            rw [Hts.out, List.filter_append, ← Htk.out, List.filter_cons_of_neg (by simp only [keepT, hc]; decide), List.filter_nil, List.append_nil])
          clear hc
          go_wp2_with fail
          (with_reducible refine Hcl.out.mono ?_)
          rintro e w3 ⟨rfl, hg3⟩
          have Hrel : Hid (DelInv B w g l.length cap l ks (.int .i64 (i : Nat)) (.int .i64 ((j + 1 : Nat) : Int)) w3) := Lib.hid ⟨i, j + 1, d, rfl, rfl, by omega, hlt, hdl, owns_grow (owns_grow Hown.out Hga.out) hg3, Hrel0.out.symm, by
            have e1 := congrArg (List.drop 1) Hdr.out
            simpa [List.drop_drop, Nat.add_comm] using e1, Hb1.out.trans (hg3.mono (Nat.le_trans hBw Hb1.out.size))⟩
          clear hg3
          go_wp2
          go_roundw
          case rel => exact Hrel.out
          case measure => simp [intOf]; omega
        | false =>
          rw [hc] at Hcl
          have hkp : keepT ks ⟨f0, f1, f2, f3, f4⟩ = true := by simp only [keepT, hc]; rfl
          have Hkp := Lib.hid hkp
          clear hc hkp
          go_wp2_with fail
          (with_reducible refine Hcl.out.mono ?_)
          rintro e w3 ⟨rfl, hg3⟩
          have hown3 := owns_grow (owns_grow Hown.out Hga.out) hg3
          obtain ⟨k0, k1, k2, k3, k4⟩ := cells5 (hg3.heap Hbx.out)
          obtain ⟨m0, m1, m2, m3, m4⟩ := own_cells hown3 hdl Hti.out
          have z0 := hown3.frozenAt (i * 5)
          have z1 := hown3.frozenAt (i * 5 + 1)
          have z2 := hown3.frozenAt (i * 5 + 2)
          have z3 := hown3.frozenAt (i * 5 + 3)
          have z4 := hown3.frozenAt (i * 5 + 4)
          obtain ⟨cur3, hgr3, hBg3, _⟩ := own_block hown3
          have lg3 := lt_of_getElem? hgr3
          have lb3 := lt_of_getElem? (hg3.heap Hbx.out)
          obtain ⟨hown4, hgr4⟩ := own_set hown3 hdl (show i < l.length by omega) ⟨f0, f1, f2, f3, f4⟩ rfl
          have Hrel : Hid (DelInv B w g l.length cap l ks (.int .i64 ((i + 1 : Nat) : Int)) (.int .i64 ((j + 1 : Nat) : Int)) (((((w3.setCell ⟨g, i * 5, none⟩ (.int .i64 f0)).setCell ⟨g, i * 5 + 1, none⟩ (.int .i64 f1)).setCell ⟨g, i * 5 + 2, none⟩ (.string f2)).setCell ⟨g, i * 5 + 3, none⟩ (.string f3)).setCell ⟨g, i * 5 + 4, none⟩ (.int .i64 f4))) := Lib.hid (by
            refine ⟨i + 1, j + 1, d.set i ⟨f0, f1, f2, f3, f4⟩, rfl, rfl, by omega, hlt, by rw [List.length_set]; exact hdl, hown4, ?_, ?_, ?_⟩
            · rw [Hts.out, List.filter_append, ← Htk.out, List.filter_cons_of_pos Hkp.out, List.filter_nil]
              rw [take_snocT (x := (⟨f0, f1, f2, f3, f4⟩ : Tb)) (by simp [show i < d.length by omega])]
              rw [List.take_set_of_le (Nat.le_refl i)]
            · have e1 := congrArg (List.drop 1) Hdr.out
              rw [List.drop_set_of_lt (by omega)]
              simpa [List.drop_drop, Nat.add_comm] using e1
            · exact (Hb1.out.trans (hg3.mono (Nat.le_trans hBw Hb1.out.size))).grown hgr4 (Nat.le_trans (Nat.le_trans hBw Hb1.out.size) hg3.size) (fun k hk => by cases hk; exact hBg3))
          clear hown4 hgr4 hown3 hg3 hgr3
          go_wp2
          go_roundw
          case rel => exact Hrel.out
          case measure => simp [intOf]; omega
      · obtain rfl : j = l.length := by omega
        rw [List.take_length] at htk
        obtain ⟨cur, hgr, hBg2, hn2, hcm2, hs2, ht2⟩ := own_block hown
        have hcsz : ∀ q, q < (l.length - i) * 5 → (wr.cell? ⟨g, i * 5 + q, none⟩).isSome = true := fun q hq => by
          have : i * 5 + q < cur.size := by rw [hs2]; omega
          simp [World.cell?, hgr, this]
        obtain ⟨cs, hcr⟩ := run_clearT wr g (i * 5) (l.length - i) (cap - i) (by omega) hcsz (fun q _ => hown.frozenAt _)
        obtain ⟨cur', hg', hs', ht', hgr'⟩ := setCells_block cs (i * 5) wr cur _ _ hgr
        have Hfin : Hid (Own B (wr.setCells g (i * 5) cs) (.slice (some ⟨g, 0, none⟩) i cap) (l.filter (keepT ks)) ∧ Below B w (wr.setCells g (i * 5) cs)) := Lib.hid (by
          have hil : (l.filter (keepT ks)).length = i := by rw [← htk, List.length_take, hdl]; omega
          refine ⟨⟨flat_len enc5 _, .inr ⟨g, cap, cur', by rw [hil], hBg2, hg', by omega, hcm2, by rw [hs', hs2], ?_⟩⟩, hbel.grown hgr' (Nat.le_trans hBw hbel.size) (fun k hk => by cases hk; exact hBg2)⟩
          rw [hil, ht' (i * 5) (Nat.le_refl _), ← htk, tcells, ← flat_take enc5 d i (by omega), ← tcells, ← ht2, List.take_take, Nat.min_eq_left (by omega)])
        have hi1 : (i : Int) ≤ (l.length : Int) := by omega
        have hi00 : (0 : Int) ≤ (i : Int) := by omega
        have hic : (l.length : Int) ≤ (cap : Int) := by omega
        have hsub : cap - i ≠ 0 := by omega
        clear hcsz hg' hs' ht' hgr' hgr hown htk hdr hbel ht2 hs2
        generalize wr.setCells g (i * 5) cs = W2 at *
        go_wp2_with fail
        go_ret
        exact ⟨_, rfl, Hfin.out.1, Hfin.out.2⟩

theorem del_none (w : World) (fv : Value) : Calls Tryz.prog 48 #[.slice none 0 0, fv] w fun e w' => e = .returned (.slice none 0 0) ∧ w' = w := by
  go_enter Tryz.func48, Tryz.ntmps48
  go_wp2_with fail
  (with_reducible refine (idxF_none _ _ _ _).mono ?_)
  rintro e w1 ⟨rfl, rfl⟩
  go_wp2
  go_ret
  exact ⟨rfl, rfl⟩

theorem del_any {B : Nat} {w : World} {v : Value} {l : List Tb} (h : Own B w v l) (hlen : l.length < 1000000000) (hBw : B ≤ w.heap.size) {eb : Nat} (heb : eb < B) {av dv : Value} {s n wl : Int} {ks : List Int} (hb : w.heap[eb]? = some (.cells #[av, dv, .int .u64 s, .int .i64 n, .int .i64 wl] 41 (0, 0)))
    {w0 : World} (hw0 : Below B w0 w) (hd : Ints w0 dv ks) (hB0 : w0.heap.size ≤ B) (hks : ks.length ≤ 1000000000) :
    Calls Tryz.prog 48 #[v, .func (.func 49) #[] #[.pointer (some ⟨eb, 0, none⟩)]] w fun e w' => ∃ v', e = .returned v' ∧ Own B w' v' (l.filter (keepT ks)) ∧ Below B w w' := by
  rcases h.2 with ⟨rfl, h0⟩ | ⟨g, cap, cur, rfl, _⟩
  · have hl : l = [] := List.eq_nil_of_length_eq_zero h0
    subst hl
    exact (del_none w _).mono fun e w' ⟨he, hw⟩ => ⟨_, he, World.ownsRow_nil _ _ _ _, by rw [hw]; exact Below.refl _ _⟩
  · exact del_some h hlen hBw heb hb hw0 hd hB0 hks
end Go.Proofs.YtejpcoghkgjanaaGreatDoor.Mn

/- manifest.shared, manifest.apart. -/
namespace Go.Proofs.YtejpcoghkgjanaaGreatDoor.Mn
open Go.RowKit Go.Gl

/-- Do two tables that lie side by side share a key? -/
def badPair (a b : Tb) : Bool := decide (0 < b.level) && ((b.level == a.level) && (Op.bytesLess b.first.toList a.last.toList || b.first.toList == a.last.toList))
def sharedD : List Tb → Bool
  | a :: b :: r => badPair a b || sharedD (b :: r)
  | _ => false

theorem sharedD_step {l : List Tb} {k : Nat} {a b : Tb} (ha : l[k]? = some a) (hb : l[k + 1]? = some b) : sharedD (l.drop k) = (badPair a b || sharedD (l.drop (k + 1))) := by
  obtain ⟨h1, rfl⟩ := List.getElem?_eq_some_iff.1 ha
  obtain ⟨h2, rfl⟩ := List.getElem?_eq_some_iff.1 hb
  rw [List.drop_eq_getElem_cons h1, List.drop_eq_getElem_cons h2]
  rfl

def SharedInv (w : World) (l : List Tb) (iv : Value) (wr : World) : Prop :=
  ∃ i k : Nat, iv = .int .i64 i ∧ i = k + 1 ∧ (i ≤ l.length ∨ i = 1) ∧ sharedD l = sharedD (l.drop k) ∧ Grow w wr

set_option maxRecDepth 100000 in
set_option maxHeartbeats 4000000 in
theorem shared_any {B : Nat} {w : World} {v : Value} {l : List Tb} (h : Own B w v l) (hlen : l.length < 1000000000) :
    Calls Tryz.prog 52 #[v] w fun e w' => e = .returned (.bool (sharedD l)) ∧ Grow w w' := by
  obtain ⟨va, vc, rfl, hrd⟩ : ∃ a c, v = .slice a l.length c ∧ (0 < l.length → ∃ g, a = some ⟨g, 0, none⟩ ∧ g < w.heap.size ∧ ∀ (j : Nat) (t : Tb), l[j]? = some t → w.cell? ⟨g, j * 5, none⟩ = some (.int .i64 t.file) ∧ w.cell? ⟨g, j * 5 + 1, none⟩ = some (.int .i64 t.level) ∧ w.cell? ⟨g, j * 5 + 2, none⟩ = some (.string t.first) ∧ w.cell? ⟨g, j * 5 + 3, none⟩ = some (.string t.last) ∧ w.cell? ⟨g, j * 5 + 4, none⟩ = some (.int .i64 t.size)) := by
    rcases h.2 with ⟨rfl, h0⟩ | ⟨g, cap, cur, rfl, hB, hg, hr⟩
    · exact ⟨none, 0, by rw [h0], fun h1 => by omega⟩
    · exact ⟨_, cap, rfl, fun _ => ⟨g, rfl, lt_of_getElem? hg, fun j t ht => own_cells h rfl ht⟩⟩
  have Hrd := Lib.hid hrd
  have hcl := Grow.cells (w := w)
  clear h hrd
  go_enter Tryz.func52, Tryz.ntmps52
  go_wp2
  go_loopw [3] (fun iv wr => SharedInv w l iv wr) (fun iv _ => l.length - (intOf iv).toNat)
  case atStart => exact ⟨1, 0, rfl, rfl, .inr rfl, rfl, Grow.refl _⟩
  case round =>
    obtain ⟨i, k, rfl, hik, hi, hsh, hg⟩ := hrel
    by_cases hlt : i < l.length
    · obtain ⟨b, hb⟩ : ∃ b, l[i]? = some b := ⟨l[i], by simp [hlt]⟩
      obtain ⟨a, ha⟩ : ∃ a, l[k]? = some a := ⟨l[k], by simp [show k < l.length by omega]⟩
      obtain ⟨g, rfl, hgl, hc⟩ := Hrd.out (by omega)
      obtain ⟨p0, p1, p2, p3, p4⟩ := hc i b hb
      obtain ⟨q0, q1, q2, q3, q4⟩ := hc k a ha
      have hstep := sharedD_step ha (by rw [← hik]; exact hb)
      have hi0 : (0 : Int) ≤ (i : Int) := by omega
      have hi1 : (i : Int) < (l.length : Int) := by omega
      have hk0 : (0 : Int) ≤ (k : Int) := by omega
      have hk1 : (k : Int) < (l.length : Int) := by omega
      have hw : IntKind.i64.wrap ((i : Int) - 1) = (k : Int) := by rw [IntWalk.i64_in _ (by omega)]; omega
      have hwi : IntKind.i64.wrap ((i : Int) + 1) = (i : Int) + 1 := IntWalk.i64_in _ (by omega)
      have Hstep := Lib.hid hstep
      have Hsh := Lib.hid hsh
      have Hik := Lib.hid hik
      have Hg := Lib.hid hg
      obtain ⟨b0, b1, b2, b3, b4⟩ := b
      obtain ⟨a0, a1, a2, a3, a4⟩ := a
      dsimp only at p0 p1 p2 p3 p4 q0 q1 q2 q3 q4
      clear hc ha hb hstep hsh hik hi
      by_cases h1 : 0 < b1
      · have h1' : decide (0 < b1) = true := by simp [h1]
        by_cases h2 : b1 = a1
        · have h2' : (b1 == a1) = true := by simp [h2]
          cases h3 : (Op.bytesLess b2.toList a3.toList || b2.toList == a3.toList) with
          | true =>
            have Hfin : Hid (sharedD l = true) := Lib.hid (by rw [Hsh.out, Hstep.out]; simp only [badPair, h1', h2', h3]; rfl)
            clear h1 h2
            go_wp2_with fail
            refine wp_region_pi (fun W => Below w.heap.size w W) [(0, false), (1, false), (2, false), (3, false), (4, false), (5, false), (6, false), (7, false), (8, false), (9, false), (10, false), (11, false), (12, false), (13, false), (14, false), (15, false), (16, false), (17, false), (18, false), (19, false), (20, false), (21, false), (22, false), (23, false), (24, false), (25, false), (26, false), (27, false), (28, false), (29, false), (30, false), (31, false), (32, false), (33, false)] (by kernel_rfl) (by kernel_rfl) (fun c a d v w h => by cases d <;> exact h) (Hg.out.trans (Grow.drew _)) ?_
            simp only [arrange, nth]
            repeat (first | (refine wpPi_quiet (v := ?_) (by rfl) (fun W hW => ?_) ?_; rotate_left; (obtain hW := hW; go_simp; with_reducible rfl); simp only [Act.put, List.setIfInBounds_toArray, List.set_cons_zero, List.set_cons_succ]) | (refine wpPi_off (by rfl) ?_; simp only [Act.put, List.setIfInBounds_toArray, List.set_cons_zero, List.set_cons_succ]))
            refine wpPi_nil ?_
            go_wp2
            go_ret
            exact ⟨by rw [Hfin.out]; rfl, Hg.out.trans (Grow.drew _)⟩
          | false =>
            have Hfin : Hid (sharedD l = sharedD (l.drop (k + 1))) := Lib.hid (by rw [Hsh.out, Hstep.out]; simp only [badPair, h1', h2', h3]; rfl)
            clear h1 h2
            go_wp2_with fail
            refine wp_region_pi (fun W => Below w.heap.size w W) [(0, false), (1, false), (2, false), (3, false), (4, false), (5, false), (6, false), (7, false), (8, false), (9, false), (10, false), (11, false), (12, false), (13, false), (14, false), (15, false), (16, false), (17, false), (18, false), (19, false), (20, false), (21, false), (22, false), (23, false), (24, false), (25, false), (26, false), (27, false), (28, false), (29, false), (30, false), (31, false), (32, false), (33, false)] (by kernel_rfl) (by kernel_rfl) (fun c a d v w h => by cases d <;> exact h) (Hg.out.trans (Grow.drew _)) ?_
            simp only [arrange, nth]
            repeat (first | (refine wpPi_quiet (v := ?_) (by rfl) (fun W hW => ?_) ?_; rotate_left; (obtain hW := hW; go_simp; with_reducible rfl); simp only [Act.put, List.setIfInBounds_toArray, List.set_cons_zero, List.set_cons_succ]) | (refine wpPi_off (by rfl) ?_; simp only [Act.put, List.setIfInBounds_toArray, List.set_cons_zero, List.set_cons_succ]))
            refine wpPi_nil ?_
            go_wp2
            go_roundw
            case rel => exact ⟨i + 1, k + 1, rfl, by rw [Hik.out], .inl hlt, Hfin.out, Hg.out.trans (Grow.drew _)⟩
            case measure => simp [intOf]; omega
        · have h2' : (b1 == a1) = false := by simpa using h2
          have Hfin : Hid (sharedD l = sharedD (l.drop (k + 1))) := Lib.hid (by rw [Hsh.out, Hstep.out]; simp only [badPair, h1', h2']; rfl)
          clear h1 h2
          go_wp2_with fail
          refine wp_region_pi (fun W => Below w.heap.size w W) [(0, false), (1, false), (2, false), (3, false), (4, false), (5, false), (6, false), (7, false), (8, false), (9, false), (10, false), (11, false), (12, false), (13, false), (14, false), (15, false), (16, false), (17, false), (18, false), (19, false), (20, false), (21, false), (22, false), (23, false), (24, false), (25, false), (26, false), (27, false), (28, false), (29, false), (30, false), (31, false), (32, false), (33, false)] (by kernel_rfl) (by kernel_rfl) (fun c a d v w h => by cases d <;> exact h) (Hg.out.trans (Grow.drew _)) ?_
          simp only [arrange, nth]
          repeat (first | (refine wpPi_quiet (v := ?_) (by rfl) (fun W hW => ?_) ?_; rotate_left; (obtain hW := hW; go_simp; with_reducible rfl); simp only [Act.put, List.setIfInBounds_toArray, List.set_cons_zero, List.set_cons_succ]) | (refine wpPi_off (by rfl) ?_; simp only [Act.put, List.setIfInBounds_toArray, List.set_cons_zero, List.set_cons_succ]))
          refine wpPi_nil ?_
          go_wp2
          go_roundw
          case rel => exact ⟨i + 1, k + 1, rfl, by rw [Hik.out], .inl hlt, Hfin.out, Hg.out.trans (Grow.drew _)⟩
          case measure => simp [intOf]; omega
      · have h1' : decide (0 < b1) = false := by simpa using h1
        have Hfin : Hid (sharedD l = sharedD (l.drop (k + 1))) := Lib.hid (by rw [Hsh.out, Hstep.out]; simp only [badPair, h1']; rfl)
        clear h1
        go_wp2_with fail
        refine wp_region_pi (fun W => Below w.heap.size w W) [(0, false), (1, false), (2, false), (3, false), (4, false), (5, false), (6, false), (7, false), (8, false), (9, false), (10, false), (11, false), (12, false), (13, false), (14, false), (15, false), (16, false), (17, false), (18, false), (19, false), (20, false), (21, false), (22, false), (23, false), (24, false), (25, false), (26, false), (27, false), (28, false), (29, false), (30, false), (31, false), (32, false), (33, false)] (by kernel_rfl) (by kernel_rfl) (fun c a d v w h => by cases d <;> exact h) (Hg.out.trans (Grow.drew _)) ?_
        simp only [arrange, nth]
        repeat (first | (refine wpPi_quiet (v := ?_) (by rfl) (fun W hW => ?_) ?_; rotate_left; (obtain hW := hW; go_simp; with_reducible rfl); simp only [Act.put, List.setIfInBounds_toArray, List.set_cons_zero, List.set_cons_succ]) | (refine wpPi_off (by rfl) ?_; simp only [Act.put, List.setIfInBounds_toArray, List.set_cons_zero, List.set_cons_succ]))
        refine wpPi_nil ?_
        go_wp2
        go_roundw
        case rel => exact ⟨i + 1, k + 1, rfl, by rw [Hik.out], .inl hlt, Hfin.out, Hg.out.trans (Grow.drew _)⟩
        case measure => simp [intOf]; omega
    · have Hfin : Hid (sharedD l = false) := Lib.hid (by
        rw [hsh]
        have : (l.drop k).length ≤ 1 := by rw [List.length_drop]; omega
        cases hd : l.drop k with
        | nil => rfl
        | cons a r =>
          rw [hd] at this
          cases r with
          | nil => rfl
          | cons b r => simp at this)
      have hle : (l.length : Int) ≤ (i : Int) := by omega
      clear hsh hik hi
      go_wp2
      go_ret
      exact ⟨by rw [Hfin.out]; rfl, hg⟩

theorem own_other {B : Nat} {w : World} {v : Value} {n : Nat} {xs : List Value} (h : w.ownsRow B 51 5 v n xs) {b i : Nat} {arr : Array Value} {t : TypeId} {f : Nat × Nat} (hb : w.heap[b]? = some (.cells arr t f)) (ht : t ≠ 51) {x : Value} : (w.setCell ⟨b, i, none⟩ x).ownsRow B 51 5 v n xs := by
  refine ⟨h.1, ?_⟩
  rcases h.2 with h1 | ⟨g, cap, cur, h1, h2, h3, h4⟩
  · exact .inl h1
  · refine .inr ⟨g, cap, cur, h1, h2, ?_, h4⟩
    rw [Below.heap_setCell _ _ _ _ (fun e => ?_)]
    · exact h3
    · rw [e] at h3
      dsimp only at h3
      rw [hb] at h3; cases h3; exact ht rfl

/-- A version's four cells. -/
abbrev verCells (v : Value) (s n wl : Int) : Array Value := #[v, .int .u64 s, .int .i64 n, .int .i64 wl]

theorem cells4 {w : World} {b : Nat} {x0 x1 x2 x3 : Value} {t : TypeId} (h : w.heap[b]? = some (.cells #[x0, x1, x2, x3] t (0, 0))) :
    w.cell? ⟨b, 0, none⟩ = some x0 ∧ w.cell? ⟨b, 1, none⟩ = some x1 ∧ w.cell? ⟨b, 2, none⟩ = some x2 ∧ w.cell? ⟨b, 3, none⟩ = some x3 := by
  simp [World.cell?, h]

theorem own_slice {B : Nat} {w : World} {v : Value} {l : List Tb} (h : Own B w v l) : ∃ a c, v = .slice a l.length c := by
  rcases h.2 with ⟨rfl, h0⟩ | ⟨g, cap, cur, rfl, _⟩
  · exact ⟨none, 0, by rw [h0]⟩
  · exact ⟨_, _, rfl⟩

set_option maxHeartbeats 2000000 in
theorem apart_any {B : Nat} {w : World} {v : Value} {l : List Tb} (h : Own B w v l) (hlen : l.length < 1000000000) (s n wl : Int) :
    Calls Tryz.prog 22 #[.agg (verCells v s n wl)] w fun e w' => ∃ v', e = .returned (.agg (verCells v' s n wl)) ∧ Own w.heap.size w' v' l ∧ Grow w w' := by
  have hga : Grow w ((w.alloc (.cells (verCells v s n wl) 38)).alloc (.cells (verCells (.slice none 0 0) 0 0 0) 38)) := by (repeat (first | exact Below.refl _ _ | assumption | refine Below.drew ?_ | refine bDrewN ?_ | refine Below.setCell ?_ (by first | omega | (simp <;> omega)) _ | refine Below.alloc ?_ (by first | omega | (simp <;> omega)) _))
  have hcon := clone_any (owns_grow h hga) hlen
  have hb1 : ((w.alloc (.cells (verCells v s n wl) 38)).alloc (.cells (verCells (.slice none 0 0) 0 0 0) 38)).heap[w.heap.size]? = some (.cells (verCells v s n wl) 38 (0, 0)) := (heap_alloc_old _ _ (by simp)).trans (heap_alloc_new _ _)
  have hb2 : ((w.alloc (.cells (verCells v s n wl) 38)).alloc (.cells (verCells (.slice none 0 0) 0 0 0) 38)).heap[w.heap.size + 1]? = some (.cells (verCells (.slice none 0 0) 0 0 0) 38 (0, 0)) := by
    have := heap_alloc_new (w.alloc (.cells (verCells v s n wl) 38)) (.cells (verCells (.slice none 0 0) 0 0 0) 38)
    simpa using this
  obtain ⟨va, vc, rfl⟩ := own_slice h
  obtain ⟨c0, c1, c2, c3⟩ := cells4 hb1
  have l1 := lt_of_getElem? hb1
  have l2 := lt_of_getElem? hb2
  have Hcon := Lib.hid hcon
  have Hb1 := Lib.hid hb1
  have Hb2 := Lib.hid hb2
  have Hga := Lib.hid hga
  clear hcon hb1 hb2 hga h
  go_enter Tryz.func22, Tryz.ntmps22
  go_wp2_with fail
  generalize (w.alloc (.cells (verCells (.slice va l.length vc) s n wl) 38)).alloc (.cells (verCells (.slice none 0 0) 0 0 0) 38) = W1 at *
  (with_reducible refine Hcon.out.mono ?_)
  rintro e w2 ⟨v', rfl, ho2, hg2⟩
  obtain ⟨va', vc', rfl⟩ := own_slice ho2
  have hb12 := hg2.heap Hb1.out
  have hb22 := hg2.heap Hb2.out
  clear c0 c1 c2 c3
  obtain ⟨c0, c1, c2, c3⟩ := cells4 hb12
  obtain ⟨d0, d1, d2, d3⟩ := cells4 hb22
  have f0 : ∀ i, w2.frozen? ⟨w.heap.size, i, none⟩ = false := fun i => by simp [World.frozen?, hb12]
  have f1 : ∀ i, w2.frozen? ⟨w.heap.size + 1, i, none⟩ = false := fun i => by simp [World.frozen?, hb22]
  have l3 := lt_of_getElem? hb12
  have l4 := lt_of_getElem? hb22
  have Ho2 := Lib.hid ho2
  have Hg2 := Lib.hid hg2
  clear hb12 hb22 ho2 hg2
  go_wp2
  refine bodyPost_ret (v := .agg (verCells (.slice va' l.length vc') s n wl)) (by simp [results, Tryz.results22, go_sem, *]) rfl ⟨_, rfl, ?_, ?_⟩
  · have k1 := Hg2.out.heap Hb1.out
    have k2 := Hg2.out.heap Hb2.out
    have hne : w.heap.size + 1 ≠ w.heap.size := by omega
    have k3 : ∀ x, (w2.setCell ⟨w.heap.size, 0, none⟩ x).heap[w.heap.size + 1]? = _ := fun x => (Below.heap_setCell _ _ _ _ hne).trans k2
    refine own_other (own_other (own_other (own_other (own_other (owns_mono Ho2.out Hga.out.size) k1 (by decide)) (k3 _) (by decide)) (setCell_heap (k3 _) _ _) (by decide)) (setCell_heap (setCell_heap (k3 _) _ _) _ _) (by decide)) (setCell_heap (setCell_heap (setCell_heap (k3 _) _ _) _ _) _ _) (by decide)
  · have hgw : Below w.heap.size w w2 := Hga.out.trans Hg2.out
    (repeat (first | exact Below.refl _ _ | assumption | refine Below.drew ?_ | refine bDrewN ?_ | refine Below.setCell ?_ (by first | omega | (simp <;> omega)) _ | refine Below.alloc ?_ (by first | omega | (simp <;> omega)) _))
end Go.Proofs.YtejpcoghkgjanaaGreatDoor.Mn

/- manifest.apply: what an edit makes of a version, as data; its walk. -/
namespace Go.Proofs.YtejpcoghkgjanaaGreatDoor.Mn
open Go.RowKit Go.Gl

structure VerD where
  tabs : List Tb
  seq : Int
  next : Int
  wal : Int

structure EdD where
  add : List Tb
  drop : List Int
  seq : Int
  next : Int
  wal : Int

def verZero : VerD := ⟨[], 0, 0, 0⟩

/-- Is one of the files that are to be dropped not there, or named twice? -/
def dropsBad (l : List Tb) : List Int → List Int → Bool
  | _, [] => false
  | pre, n :: r => (!hasF l n || pre.contains n) || dropsBad l (pre ++ [n]) r

/-- May a table not be added? -/
def addBad (l : List Tb) (t : Tb) : Bool :=
  decide (t.file < 0) || (hasF l t.file || (decide (t.level < 0) || (decide (6 < t.level) || (!(Op.bytesLess t.first.toList t.last.toList || t.first.toList == t.last.toList) || (decide (t.size < 0) || (decide (1099511627776 < t.file) || decide (1099511627776 < t.size)))))))

def addsD : List Tb → List Tb → Option (List Tb)
  | l, [] => some l
  | l, t :: r => if addBad l t = true then none else addsD (l ++ [t]) r

def numsBad (v : VerD) (e : EdD) : Bool :=
  ((e.seq != 0) && decide (e.seq < v.seq)) || (((e.next != 0) && decide (e.next < v.next)) || (((e.wal != 0) && decide (e.wal < v.wal)) || (decide (1099511627776 < e.next) || decide (1099511627776 < e.wal))))

/-- The error's number, and the version. -/
def applyD (v : VerD) (e : EdD) : Int × VerD :=
  if dropsBad v.tabs [] e.drop = true then (4, verZero) else
  match addsD (v.tabs.filter (keepT e.drop)) e.add with
  | none => (1, verZero)
  | some l =>
    if 65536 < (sortD l).length then (1, verZero) else
    if sharedD (sortD l) = true then (15, verZero) else
    if numsBad v e = true then (1, verZero) else
    (0, ⟨sortD l, or2 e.seq v.seq, or2 e.next v.next, or2 e.wal v.wal⟩)

/-- A row of tables that can be read. -/
def Tabs (w : World) (v : Value) (l : List Tb) : Prop :=
  ∃ a c, v = .slice a l.length c ∧ (l = [] ∨ ∃ b o, a = some ⟨b, o, none⟩ ∧ b < w.heap.size ∧ Rd w b o encTb 5 l)

theorem Tabs.grow {w w' : World} {v : Value} {l : List Tb} (h : Tabs w v l) (hg : Grow w w') : Tabs w' v l := by
  obtain ⟨a, c, hv, h⟩ := h
  refine ⟨a, c, hv, ?_⟩
  rcases h with h | ⟨b, o, ha, hb, hr⟩
  · exact .inl h
  · exact .inr ⟨b, o, ha, Nat.lt_of_lt_of_le hb hg.size, hr.grow hb hg⟩

def APost (w : World) (r : Int × VerD) (e : Ending) (w' : World) : Prop :=
  ∃ v', e = .returned (.tuple #[.agg (verCells v' r.2.seq r.2.next r.2.wal), .int .i64 r.1]) ∧ Own w.heap.size w' v' r.2.tabs ∧ Grow w w'

abbrev edCells (av dv : Value) (s n wl : Int) : Array Value := #[av, dv, .int .u64 s, .int .i64 n, .int .i64 wl]

/-- The three boxes of apply: the version, the edit, what comes out. -/
structure Boxes (w wr : World) (cv : Value) (s n wl : Int) (av dv : Value) (es en ew : Int) : Prop where
  vb : wr.heap[w.heap.size]? = some (.cells (verCells cv s n wl) 38 (0, 0))
  eb : wr.heap[w.heap.size + 1]? = some (.cells (edCells av dv es en ew) 41 (0, 0))
  rb : wr.heap[w.heap.size + 1 + 1]? = some (.cells (verCells (.slice none 0 0) 0 0 0) 38 (0, 0))
  gr : Grow w wr

theorem Boxes.grow {w wr wr' : World} {cv : Value} {s n wl : Int} {av dv : Value} {es en ew : Int} (h : Boxes w wr cv s n wl av dv es en ew) (hg : Grow wr wr') : Boxes w wr' cv s n wl av dv es en ew :=
  ⟨hg.heap h.vb, hg.heap h.eb, hg.heap h.rb, h.gr.trans hg⟩

theorem Boxes.start (w : World) (cv : Value) (s n wl : Int) (av dv : Value) (es en ew : Int) : Boxes w (((w.alloc (.cells (verCells cv s n wl) 38)).alloc (.cells (edCells av dv es en ew) 41)).alloc (.cells (verCells (.slice none 0 0) 0 0 0) 38)) cv s n wl av dv es en ew := by
  refine ⟨?_, ?_, ?_, by (repeat (first | exact Below.refl _ _ | assumption | refine Below.drew ?_ | refine bDrewN ?_ | refine Below.setCell ?_ (by first | omega | (simp <;> omega)) _ | refine Below.alloc ?_ (by first | omega | (simp <;> omega)) _))⟩
  · rw [heap_alloc_old _ _ (by simp; omega), heap_alloc_old _ _ (by simp)]; exact heap_alloc_new _ _
  · rw [heap_alloc_old _ _ (by simp)]
    have := heap_alloc_new (w.alloc (.cells (verCells cv s n wl) 38)) (.cells (edCells av dv es en ew) 41)
    simpa using this
  · have := heap_alloc_new ((w.alloc (.cells (verCells cv s n wl) 38)).alloc (.cells (edCells av dv es en ew) 41)) (.cells (verCells (.slice none 0 0) 0 0 0) 38)
    simpa using this

theorem Boxes.below {w w1 w2 : World} {B : Nat} {cv : Value} {s n wl : Int} {av dv : Value} {es en ew : Int} (h : Boxes w w1 cv s n wl av dv es en ew) (hb : Below B w1 w2) (hB : w.heap.size + 1 + 1 < B) : Boxes w w2 cv s n wl av dv es en ew :=
  ⟨by rw [hb.block _ (by omega)]; exact h.vb, by rw [hb.block _ (by omega)]; exact h.eb, by rw [hb.block _ hB]; exact h.rb, Below.trans h.gr (hb.mono (by omega))⟩

theorem Boxes.grown {w w1 w2 : World} {r : Option Nat} {B : Nat} {cv : Value} {s n wl : Int} {av dv : Value} {es en ew : Int} (h : Boxes w w1 cv s n wl av dv es en ew) (hg : w1.grownBy w2 r) (hr : ∀ k, r = some k → B ≤ k) (hB : w.heap.size + 1 + 1 < B) : Boxes w w2 cv s n wl av dv es en ew := by
  have l1 := lt_of_getElem? h.vb
  have l2 := lt_of_getElem? h.eb
  have l3 := lt_of_getElem? h.rb
  have hne : ∀ k, k < B → some k ≠ r := fun k hk e => by have := hr k e.symm; omega
  exact ⟨by rw [hg.block _ l1 (hne _ (by omega))]; exact h.vb, by rw [hg.block _ l2 (hne _ (by omega))]; exact h.eb, by rw [hg.block _ l3 (hne _ hB)]; exact h.rb, h.gr.grown hg h.gr.size (fun k hk => by have := hr k hk; omega)⟩

theorem Boxes.setV {w wr : World} {cv : Value} {s n wl : Int} {av dv : Value} {es en ew : Int} (h : Boxes w wr cv s n wl av dv es en ew) (cv' : Value) : Boxes w (wr.setCell ⟨w.heap.size, 0, none⟩ cv') cv' s n wl av dv es en ew :=
  ⟨setCell_heap h.vb 0 cv', (Below.heap_setCell _ _ _ _ (by show w.heap.size + 1 ≠ w.heap.size; omega)).trans h.eb, (Below.heap_setCell _ _ _ _ (by show w.heap.size + 1 + 1 ≠ w.heap.size; omega)).trans h.rb, h.gr.setCell (Nat.le_refl _) _⟩

def AddInv (w : World) (B1 : Nat) (V : VerD) (E : EdD) (av dv : Value) (iv : Value) (wr : World) : Prop :=
  ∃ (i : Nat) (cv : Value) (cur : List Tb), iv = .int .i64 i ∧ i ≤ E.add.length ∧ Boxes w wr cv V.seq V.next V.wal av dv E.seq E.next E.wal ∧ Own B1 wr cv cur ∧ addsD (V.tabs.filter (keepT E.drop)) E.add = addsD cur (E.add.drop i) ∧ cur.length ≤ 10000 + i ∧ B1 ≤ wr.heap.size

theorem adds_step {l : List Tb} {add : List Tb} {i : Nat} {t : Tb} (h : add[i]? = some t) : addsD l (add.drop i) = if addBad l t = true then none else addsD (l ++ [t]) (add.drop (i + 1)) := by
  obtain ⟨hi, rfl⟩ := List.getElem?_eq_some_iff.1 h
  rw [List.drop_eq_getElem_cons hi, addsD]

def DropInv (W0 : World) (l : List Tb) (drop : List Int) (iv : Value) (wr : World) : Prop :=
  ∃ i : Nat, iv = .int .i64 i ∧ i ≤ drop.length ∧ dropsBad l [] drop = dropsBad l (drop.take i) (drop.drop i) ∧ Grow W0 wr

theorem drops_step {l : List Tb} {drop : List Int} {i : Nat} {n : Int} (h : drop[i]? = some n) : dropsBad l (drop.take i) (drop.drop i) = ((!hasF l n || (drop.take i).contains n) || dropsBad l (drop.take (i + 1)) (drop.drop (i + 1))) := by
  obtain ⟨hi, rfl⟩ := List.getElem?_eq_some_iff.1 h
  rw [List.drop_eq_getElem_cons hi, dropsBad, take_snocT (List.getElem?_eq_getElem hi)]
end Go.Proofs.YtejpcoghkgjanaaGreatDoor.Mn

/- How apply and Apply return. -/
namespace Go.Proofs.YtejpcoghkgjanaaGreatDoor.Mn
open Go.RowKit Go.Gl

theorem results_apply {w : World} {t : Array Value} {rb : Nat} {x0 x1 x2 x3 : Value} {c : Int} (h4 : t.getD 4 undef = .pointer (some ⟨rb, 0, none⟩)) (h5 : t.getD 5 undef = .int .i64 c) (hW : w.heap[rb]? = some (.cells #[x0, x1, x2, x3] 38 (0, 0))) :
    (results Tryz.f23 t).run Tryz.prog w = .ok (.tuple #[.agg #[x0, x1, x2, x3], .int .i64 c]) w := by
  obtain ⟨k0, k1, k2, k3⟩ := cells4 hW
  simp only [Array.getD_eq_getD_getElem?] at h4 h5
  simp [results, Tryz.results23, go_sem, h4, h5, k0, k1, k2, k3]

theorem results_Apply {w : World} {t : Array Value} {rb : Nat} {x0 x1 x2 x3 : Value} {c : Int} (h4 : t.getD 4 undef = .pointer (some ⟨rb, 0, none⟩)) (h5 : t.getD 5 undef = .int .i64 c) (hW : w.heap[rb]? = some (.cells #[x0, x1, x2, x3] 38 (0, 0))) :
    (results Tryz.f8 t).run Tryz.prog w = .ok (.tuple #[.agg #[x0, x1, x2, x3], .int .i64 c]) w := by
  obtain ⟨k0, k1, k2, k3⟩ := cells4 hW
  simp only [Array.getD_eq_getD_getElem?] at h4 h5
  simp [results, Tryz.results8, go_sem, h4, h5, k0, k1, k2, k3]
end Go.Proofs.YtejpcoghkgjanaaGreatDoor.Mn

/- manifest.Apply, over the contract of apply. -/
namespace Go.Proofs.YtejpcoghkgjanaaGreatDoor.Mn
open Go.RowKit Go.Gl

/-- What is asked of a version and an edit in memory. -/
structure AArgs (w : World) (tv : Value) (V : VerD) (av dv : Value) (E : EdD) : Prop where
  own : Own 0 w tv V.tabs
  len : V.tabs.length ≤ 10000
  adds : Tabs w av E.add
  alen : E.add.length ≤ 10000
  drops : Ints w dv E.drop
  dlen : E.drop.length ≤ 10000

/-- The contract of apply. -/
def ApplyOk : Prop := ∀ (w : World) (tv : Value) (V : VerD) (av dv : Value) (E : EdD), AArgs w tv V av dv E →
  Calls Tryz.prog 23 #[.agg (verCells tv V.seq V.next V.wal), .agg (edCells av dv E.seq E.next E.wal)] w (APost w (applyD V E))

def applyAllD : VerD → List EdD → Int × VerD
  | v, [] => (0, v)
  | v, e :: r => if (applyD v e).1 = 0 then applyAllD (applyD v e).2 r else ((applyD v e).1, verZero)

/-- An edit in memory. -/
structure EdAt (w : World) (b o : Nat) (av dv : Value) (e : EdD) : Prop where
  c0 : w.cell? ⟨b, o, none⟩ = some av
  c1 : w.cell? ⟨b, o + 1, none⟩ = some dv
  c2 : w.cell? ⟨b, o + 2, none⟩ = some (.int .u64 e.seq)
  c3 : w.cell? ⟨b, o + 3, none⟩ = some (.int .i64 e.next)
  c4 : w.cell? ⟨b, o + 4, none⟩ = some (.int .i64 e.wal)
  adds : Tabs w av e.add
  drops : Ints w dv e.drop

theorem EdAt.grow {w w' : World} {b o : Nat} {av dv : Value} {e : EdD} (h : EdAt w b o av dv e) (hb : b < w.heap.size) (hg : Grow w w') : EdAt w' b o av dv e := by
  have hc : ∀ i, w'.cell? ⟨b, i, none⟩ = w.cell? ⟨b, i, none⟩ := fun i => Grow.cells _ _ _ hg hb
  exact ⟨by rw [hc]; exact h.c0, by rw [hc]; exact h.c1, by rw [hc]; exact h.c2, by rw [hc]; exact h.c3, by rw [hc]; exact h.c4, h.adds.grow hg, h.drops.grow hg⟩

/-- A row of edits in memory, each with few tables and files. -/
def Edits (w : World) (v : Value) (es : List EdD) : Prop :=
  ∃ a c, v = .slice a es.length c ∧ (es = [] ∨ ∃ b o, a = some ⟨b, o, none⟩ ∧ b < w.heap.size ∧ ∀ (i : Nat) (e : EdD), es[i]? = some e → ∃ av dv, EdAt w b (o + i * 5) av dv e)

theorem Edits.grow {w w' : World} {v : Value} {es : List EdD} (h : Edits w v es) (hg : Grow w w') : Edits w' v es := by
  obtain ⟨a, c, hv, h⟩ := h
  refine ⟨a, c, hv, ?_⟩
  rcases h with h | ⟨b, o, ha, hb, hc⟩
  · exact .inl h
  · refine .inr ⟨b, o, ha, Nat.lt_of_lt_of_le hb hg.size, fun i e he => ?_⟩
    obtain ⟨av, dv, h1⟩ := hc i e he
    exact ⟨av, dv, h1.grow hb hg⟩

theorem addsD_len : ∀ {r l l' : List Tb}, addsD l r = some l' → l'.length = l.length + r.length
  | [], l, l', h => by simp [addsD] at h; subst h; simp
  | t :: r, l, l', h => by
    unfold addsD at h
    split at h
    · cases h
    · have := addsD_len h; simp at this ⊢; omega

theorem applyD_len (v : VerD) (e : EdD) : (applyD v e).2.tabs.length ≤ v.tabs.length + e.add.length := by
  unfold applyD
  split
  · simp [verZero]
  · split
    · simp [verZero]
    · rename_i l hl
      have h1 := addsD_len hl
      have h2 : (v.tabs.filter (keepT e.drop)).length ≤ v.tabs.length := List.length_filter_le _ _
      have h3 := (sortD_perm l).length_eq
      split
      · simp [verZero]
      · split
        · simp [verZero]
        · split
          · simp [verZero]
          · dsimp only; omega

def AllInv (w : World) (V : VerD) (es : List EdD) (iv : Value) (wr : World) : Prop :=
  ∃ (i : Nat) (cv : Value) (V' : VerD), iv = .int .i64 i ∧ i ≤ es.length ∧ wr.heap[w.heap.size]? = some (.cells (verCells cv V'.seq V'.next V'.wal) 38 (0, 0)) ∧ wr.heap[w.heap.size + 1]? = some (.cells (verCells (.slice none 0 0) 0 0 0) 38 (0, 0)) ∧
    Own w.heap.size wr cv V'.tabs ∧ applyAllD V es = applyAllD V' (es.drop i) ∧ V'.tabs.length ≤ V.tabs.length + 5000 * i ∧ Grow w wr

theorem set4 {w : World} {b : Nat} {x0 x1 x2 x3 : Value} (h : w.heap[b]? = some (.cells #[x0, x1, x2, x3] 38 (0, 0))) (y0 y1 y2 y3 : Value) :
    ((((w.setCell ⟨b, 0, none⟩ y0).setCell ⟨b, 1, none⟩ y1).setCell ⟨b, 2, none⟩ y2).setCell ⟨b, 3, none⟩ y3).heap[b]? = some (.cells #[y0, y1, y2, y3] 38 (0, 0)) :=
  setCell_heap (setCell_heap (setCell_heap (setCell_heap h 0 y0) 1 y1) 2 y2) 3 y3
theorem set4_other {w : World} {b c : Nat} (h : c ≠ b) (y0 y1 y2 y3 : Value) :
    ((((w.setCell ⟨b, 0, none⟩ y0).setCell ⟨b, 1, none⟩ y1).setCell ⟨b, 2, none⟩ y2).setCell ⟨b, 3, none⟩ y3).heap[c]? = w.heap[c]? := by
  rw [Below.heap_setCell _ _ _ _ h, Below.heap_setCell _ _ _ _ h, Below.heap_setCell _ _ _ _ h, Below.heap_setCell _ _ _ _ h]
theorem set4_own {B : Nat} {w : World} {v : Value} {l : List Tb} {b : Nat} {x0 x1 x2 x3 : Value} (ho : Own B w v l) (h : w.heap[b]? = some (.cells #[x0, x1, x2, x3] 38 (0, 0))) (y0 y1 y2 y3 : Value) :
    Own B ((((w.setCell ⟨b, 0, none⟩ y0).setCell ⟨b, 1, none⟩ y1).setCell ⟨b, 2, none⟩ y2).setCell ⟨b, 3, none⟩ y3) v l :=
  own_other (own_other (own_other (own_other ho h (by decide)) (setCell_heap h 0 y0) (by decide)) (setCell_heap (setCell_heap h 0 y0) 1 y1) (by decide)) (setCell_heap (setCell_heap (setCell_heap h 0 y0) 1 y1) 2 y2) (by decide)
theorem set4_below {B : Nat} {a w : World} (h : Below B a w) {b : Nat} (hb : B ≤ b) (y0 y1 y2 y3 : Value) :
    Below B a ((((w.setCell ⟨b, 0, none⟩ y0).setCell ⟨b, 1, none⟩ y1).setCell ⟨b, 2, none⟩ y2).setCell ⟨b, 3, none⟩ y3) :=
  (((h.setCell hb _).setCell hb _).setCell hb _).setCell hb _

set_option maxRecDepth 100000 in
set_option maxHeartbeats 4000000 in
theorem Apply_any (hA : ApplyOk) {B : Nat} {w : World} {tv : Value} {V : VerD} (hown : Own B w tv V.tabs) (hVl : V.tabs.length ≤ 5000) {ev : Value} {es : List EdD} (he : Edits w ev es) (hel : es.length ≤ 1) (hfew : ∀ e ∈ es, e.add.length ≤ 5000 ∧ e.drop.length ≤ 10000) :
    Calls Tryz.prog 8 #[.agg (verCells tv V.seq V.next V.wal), ev] w (APost w (applyAllD V es)) := by
  have hg0 : Grow w ((w.alloc (.cells (verCells tv V.seq V.next V.wal) 38)).alloc (.cells (verCells (.slice none 0 0) 0 0 0) 38)) := by (repeat (first | exact Below.refl _ _ | assumption | refine Below.drew ?_ | refine bDrewN ?_ | refine Below.setCell ?_ (by first | omega | (simp <;> omega)) _ | refine Below.alloc ?_ (by first | omega | (simp <;> omega)) _))
  have hb1 : ((w.alloc (.cells (verCells tv V.seq V.next V.wal) 38)).alloc (.cells (verCells (.slice none 0 0) 0 0 0) 38)).heap[w.heap.size]? = some (.cells (verCells tv V.seq V.next V.wal) 38 (0, 0)) := (heap_alloc_old _ _ (by simp)).trans (heap_alloc_new _ _)
  have hb2 : ((w.alloc (.cells (verCells tv V.seq V.next V.wal) 38)).alloc (.cells (verCells (.slice none 0 0) 0 0 0) 38)).heap[w.heap.size + 1]? = some (.cells (verCells (.slice none 0 0) 0 0 0) 38 (0, 0)) := by
    have := heap_alloc_new (w.alloc (.cells (verCells tv V.seq V.next V.wal) 38)) (.cells (verCells (.slice none 0 0) 0 0 0) 38)
    simpa using this
  have hap := apart_any (owns_grow hown hg0) (by omega) V.seq V.next V.wal
  obtain ⟨ta, tc, rfl⟩ := own_slice hown
  obtain ⟨ea, ec, rfl, her⟩ := he
  obtain ⟨c0, c1, c2, c3⟩ := cells4 hb1
  have l1 := lt_of_getElem? hb1
  have l2 := lt_of_getElem? hb2
  have Hap := Lib.hid hap
  have Hb1 := Lib.hid hb1
  have Hb2 := Lib.hid hb2
  have Hg0 := Lib.hid hg0
  have Her := Lib.hid her
  have HA := Lib.hid hA
  have Hfew := Lib.hid hfew
  clear hap hb1 hb2 hg0 her hA hfew hown
  go_enter Tryz.func8, Tryz.ntmps8
  go_wp2_with fail
  generalize (w.alloc (.cells (verCells (.slice ta V.tabs.length tc) V.seq V.next V.wal) 38)).alloc (.cells (verCells (.slice none 0 0) 0 0 0) 38) = W1 at *
  (with_reducible refine Hap.out.mono ?_)
  rintro e w2 ⟨cv, rfl, ho2, hg2⟩
  have k1 := hg2.heap Hb1.out
  have k2 := hg2.heap Hb2.out
  have hst : AllInv w V es (.int .i64 0) ((((w2.setCell ⟨w.heap.size, 0, none⟩ cv).setCell ⟨w.heap.size, 1, none⟩ (.int .u64 V.seq)).setCell ⟨w.heap.size, 2, none⟩ (.int .i64 V.next)).setCell ⟨w.heap.size, 3, none⟩ (.int .i64 V.wal)) :=
    ⟨0, cv, V, rfl, Nat.zero_le _, set4 k1 _ _ _ _, (set4_other (by omega) _ _ _ _).trans k2, set4_own (owns_mono ho2 Hg0.out.size) k1 _ _ _ _, rfl, by omega, set4_below (Hg0.out.trans hg2) (Nat.le_refl _) _ _ _ _⟩
  clear c0 c1 c2 c3
  obtain ⟨c0, c1, c2, c3⟩ := cells4 k1
  have f0 : ∀ i, w2.frozen? ⟨w.heap.size, i, none⟩ = false := fun i => by simp [World.frozen?, k1]
  have l3 := lt_of_getElem? k1
  obtain ⟨xa, xc, rfl⟩ := own_slice ho2
  have Hst := Lib.hid hst
  clear k1 k2 hst ho2 hg2
  go_wp2_with fail
  go_loopw [13] (fun iv wr => AllInv w V es iv wr) (fun iv _ => es.length - (intOf iv).toNat)
  case atStart => exact Hst.out
  case round =>
    obtain ⟨i, cv, V', rfl, hi, hvb, hrb, hown, hall, hlen, hg⟩ := hrel
    by_cases hlt : i < es.length
    · obtain ⟨x, hx⟩ : ∃ x, es[i]? = some x := ⟨es[i], by simp [hlt]⟩
      obtain ⟨b, o, rfl, hbl, hed⟩ : ∃ b o, ea = some ⟨b, o, none⟩ ∧ b < w.heap.size ∧ ∀ (i : Nat) (e : EdD), es[i]? = some e → ∃ av dv, EdAt w b (o + i * 5) av dv e := by
        rcases Her.out with h1 | h1
        · rw [h1] at hlt; simp at hlt
        · exact h1
      obtain ⟨av, dv, hat0⟩ := hed i x hx
      have hat := hat0.grow hbl hg
      obtain ⟨hxa, hxd⟩ := Hfew.out x (List.mem_of_getElem? hx)
      have hstep : applyAllD V' (es.drop i) = if (applyD V' x).1 = 0 then applyAllD (applyD V' x).2 (es.drop (i + 1)) else ((applyD V' x).1, verZero) := by
        obtain ⟨hi', rfl⟩ := List.getElem?_eq_some_iff.1 hx
        rw [List.drop_eq_getElem_cons hi', applyAllD]
      have hrl := applyD_len V' x
      obtain ⟨aa, ac, rfl, _⟩ := hat.adds
      obtain ⟨da, dc, rfl, _, _⟩ := hat.drops
      obtain ⟨p0, p1, p2, p3, p4, _, _⟩ := hat
      have hga : Grow wr (wr.alloc (.cells (edCells (.slice aa x.add.length ac) (.slice da x.drop.length dc) x.seq x.next x.wal) 41)) := Grow.alloc _ _
      have hcall := HA.out (wr.alloc (.cells (edCells (.slice aa x.add.length ac) (.slice da x.drop.length dc) x.seq x.next x.wal) 41)) cv V' (.slice aa x.add.length ac) (.slice da x.drop.length dc) x ⟨owns_mono (owns_grow hown hga) (Nat.zero_le _), by omega, (hat0.adds.grow hg).grow hga, by omega, (hat0.drops.grow hg).grow hga, by omega⟩
      obtain ⟨va, vc, rfl⟩ := own_slice hown
      clear c0 c1 c2 c3
      obtain ⟨c0, c1, c2, c3⟩ := cells4 hvb
      have lv := lt_of_getElem? hvb
      have lr := lt_of_getElem? hrb
      have lb : b < wr.heap.size := Nat.lt_of_lt_of_le hbl hg.size
      have hi1 : (i : Int) < (es.length : Int) := by omega
      have hi0 : (0 : Int) ≤ (i : Int) := by omega
      have Hcall := Lib.hid hcall
      have Hstep := Lib.hid hstep
      have Hall := Lib.hid hall
      have Hvb := Lib.hid hvb
      have Hrb := Lib.hid hrb
      have Hga := Lib.hid hga
      have Hg := Lib.hid hg
      clear hcall hstep hall hvb hrb hga hg hat0 hed hown hx
      generalize applyD V' x = r at *
      go_wp2_with fail
      (with_reducible refine Hcall.out.mono ?_)
      rintro e w5 ⟨v5, rfl, ho5, hg5⟩
      have k1 := hg5.heap (Hga.out.heap Hvb.out)
      have k2 := hg5.heap (Hga.out.heap Hrb.out)
      have hg05 := (Hg.out.trans Hga.out).trans hg5
      clear c0 c1 c2 c3
      obtain ⟨c0, c1, c2, c3⟩ := cells4 k1
      obtain ⟨d0, d1, d2, d3⟩ := cells4 k2
      have g0 : ∀ i, w5.frozen? ⟨w.heap.size, i, none⟩ = false := fun i => by simp [World.frozen?, k1]
      have g1 : ∀ i, w5.frozen? ⟨w.heap.size + 1, i, none⟩ = false := fun i => by simp [World.frozen?, k2]
      have l5 := lt_of_getElem? k1
      have l6 := lt_of_getElem? k2
      obtain ⟨rc, rv⟩ := r
      dsimp only at ho5 hrl Hstep
      have hB5 : w.heap.size ≤ (wr.alloc (.cells (edCells (.slice aa x.add.length ac) (.slice da x.drop.length dc) x.seq x.next x.wal) 41)).heap.size := (Hg.out.trans Hga.out).size
      by_cases hrc : rc = 0
      · subst hrc
        have Hrel : Hid (AllInv w V es (.int .i64 ((i + 1 : Nat) : Int)) ((((w5.setCell ⟨w.heap.size, 0, none⟩ v5).setCell ⟨w.heap.size, 1, none⟩ (.int .u64 rv.seq)).setCell ⟨w.heap.size, 2, none⟩ (.int .i64 rv.next)).setCell ⟨w.heap.size, 3, none⟩ (.int .i64 rv.wal))) := Lib.hid
          ⟨i + 1, v5, rv, rfl, hlt, set4 k1 _ _ _ _, (set4_other (by omega) _ _ _ _).trans k2, set4_own (owns_mono ho5 hB5) k1 _ _ _ _, by rw [Hall.out, Hstep.out, if_pos rfl], by omega, set4_below hg05 (Nat.le_refl _) _ _ _ _⟩
        obtain ⟨ya, yc, rfl⟩ := own_slice ho5
        clear ho5 hg5 hg05 k1 k2 g1 hB5
        go_wp2
        go_roundw
        case rel => exact Hrel.out
        case measure => simp [intOf]; omega
      · have Hres : Hid (applyAllD V es = (rc, verZero)) := Lib.hid (by rw [Hall.out, Hstep.out, if_neg hrc])
        have hrb : (rc != 0) = true := by simpa using hrc
        have hrb2 : (rc == 0) = false := by simpa using hrc
        have Hg05 := Lib.hid hg05
        have Hk2 := Lib.hid k2
        obtain ⟨ya, yc, rfl⟩ := own_slice ho5
        clear ho5 hg5 hg05 k1 k2 hB5 hrc
        go_wp2
        refine bodyPost_ret (results_Apply (x0 := .slice none 0 0) (x1 := .int .u64 0) (x2 := .int .i64 0) (x3 := .int .i64 0) (c := rc) rfl rfl (set4 ((set4_other (by omega) _ _ _ _).trans Hk2.out) _ _ _ _)) rfl ?_
        rw [Hres.out]
        exact ⟨_, rfl, World.ownsRow_nil _ _ _ _, set4_below (set4_below Hg05.out (Nat.le_refl _) _ _ _ _) (by omega) _ _ _ _⟩
    · obtain rfl : i = es.length := by omega
      rw [List.drop_length] at hall
      have Hres : Hid (applyAllD V es = (0, V')) := Lib.hid hall
      have Hfin : Hid (Own w.heap.size ((((wr.setCell ⟨w.heap.size + 1, 0, none⟩ cv).setCell ⟨w.heap.size + 1, 1, none⟩ (.int .u64 V'.seq)).setCell ⟨w.heap.size + 1, 2, none⟩ (.int .i64 V'.next)).setCell ⟨w.heap.size + 1, 3, none⟩ (.int .i64 V'.wal)) cv V'.tabs) := Lib.hid (set4_own hown hrb _ _ _ _)
      obtain ⟨va, vc, rfl⟩ := own_slice hown
      clear c0 c1 c2 c3
      obtain ⟨c0, c1, c2, c3⟩ := cells4 hvb
      obtain ⟨d0, d1, d2, d3⟩ := cells4 hrb
      have g1 : ∀ i, wr.frozen? ⟨w.heap.size + 1, i, none⟩ = false := fun i => by simp [World.frozen?, hrb]
      have l5 := lt_of_getElem? hvb
      have l6 := lt_of_getElem? hrb
      have Hg := Lib.hid hg
      have Hrb := Lib.hid hrb
      clear hall hvb hrb hown hg f0
      go_wp2
      refine bodyPost_ret (results_Apply (c := 0) rfl rfl (set4 Hrb.out _ _ _ _)) rfl (by
        rw [Hres.out]
        exact ⟨_, rfl, Hfin.out, set4_below Hg.out (by omega) _ _ _ _⟩)
end Go.Proofs.YtejpcoghkgjanaaGreatDoor.Mn
