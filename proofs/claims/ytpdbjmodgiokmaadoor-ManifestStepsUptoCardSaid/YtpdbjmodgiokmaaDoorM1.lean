/- Tables as data; cmp.Compare at int and string, cmp.Or at two and three, manifest.Compare. -/
import Derived.Test.YtpdbjmodgiokmaaDoorRows
import Derived.Test.YtpdbjmodgiokmaaDoorGl
import Derived.Test.YtpdbjmodgiokmaaDoorGm
import Derived.Deep.QuietTactic
import Derived.BigQuiet
import Derived.Lib.Hide
import Derived.Laws.Cover1
import Derived.Sort.Grow
namespace Go.Proofs.YtpdbjmodgiokmaaDoor
open Go.RowKit Go.Gl

/-- A table. -/
structure Tb where
  file : Int
  level : Int
  first : ByteArray
  last : ByteArray
  size : Int

instance : Inhabited Tb := ⟨⟨0, 0, ByteArray.empty, ByteArray.empty, 0⟩⟩

def encTb (t : Tb) : List Value := [.int .i64 t.file, .int .i64 t.level, .string t.first, .string t.last, .int .i64 t.size]
def tcells (l : List Tb) : List Value := l.flatMap encTb

def cmpI (x y : Int) : Int := if x < y then -1 else if y < x then 1 else 0
def cmpS (x y : ByteArray) : Int := if Op.bytesLess x.toList y.toList = true then -1 else if (x.toList == y.toList) = true then 0 else 1

theorem isNaN_int (x : Int) (w : World) : Calls Tryd.prog 26 #[.int .i64 x] w fun e w' => e = .returned (.bool false) ∧ w' = w := by
  have hb : (x != x) = false := by simp
  go_enter Tryd.func26, Tryd.ntmps26
  go_wp2
  go_ret
  exact ⟨rfl, rfl⟩

theorem isNaN_str (x : ByteArray) (w : World) : Calls Tryd.prog 27 #[.string x] w fun e w' => e = .returned (.bool false) ∧ w' = w := by
  go_enter Tryd.func27, Tryd.ntmps27
  go_wp2
  go_ret
  exact ⟨by simp, rfl⟩

theorem compare_int (x y : Int) (w : World) : Calls Tryd.prog 15 #[.int .i64 x, .int .i64 y] w fun e w' => e = .returned (.int .i64 (cmpI x y)) ∧ w' = w := by
  go_enter Tryd.func15, Tryd.ntmps15
  go_wp2_with (go_at_call 26; (with_reducible refine (isNaN_int _ _).mono ?_); rintro e w' ⟨rfl, rfl⟩)
  · rename_i h
    go_ret
    exact ⟨by rw [cmpI, if_pos h]; rfl, rfl⟩
  · rename_i h1 h2
    go_ret
    exact ⟨by rw [cmpI, if_neg (by omega), if_pos h2]; rfl, rfl⟩
  · rename_i h1 h2
    go_ret
    exact ⟨by rw [cmpI, if_neg (by omega), if_neg (by omega)]; rfl, rfl⟩

theorem compare_str (x y : ByteArray) (w : World) : Calls Tryd.prog 16 #[.string x, .string y] w fun e w' => e = .returned (.int .i64 (cmpS x y)) ∧ w' = w := by
  unfold cmpS
  cases h1 : Op.bytesLess x.toList y.toList with
  | true =>
    go_enter Tryd.func16, Tryd.ntmps16
    go_wp2_with (go_at_call 27; (with_reducible refine (isNaN_str _ _).mono ?_); rintro e w' ⟨rfl, rfl⟩)
    go_ret
    exact ⟨rfl, rfl⟩
  | false =>
    cases h2 : (x.toList == y.toList) with
    | true =>
      go_enter Tryd.func16, Tryd.ntmps16
      go_wp2_with (go_at_call 27; (with_reducible refine (isNaN_str _ _).mono ?_); rintro e w' ⟨rfl, rfl⟩)
      go_ret
      exact ⟨rfl, rfl⟩
    | false =>
      go_enter Tryd.func16, Tryd.ntmps16
      go_wp2_with (go_at_call 27; (with_reducible refine (isNaN_str _ _).mono ?_); rintro e w' ⟨rfl, rfl⟩)
      go_ret
      exact ⟨rfl, rfl⟩

/-- The first that is not nought. -/
def or3 (x y z : Int) : Int := if x = 0 then (if y = 0 then z else y) else x
def or2 (x y : Int) : Int := if x = 0 then y else x

theorem or_int3 (x y z : Int) (b : Nat) (w : World) (h0 : w.cell? ⟨b, 0, none⟩ = some (.int .i64 x)) (h1 : w.cell? ⟨b, 1, none⟩ = some (.int .i64 y)) (h2 : w.cell? ⟨b, 2, none⟩ = some (.int .i64 z)) :
    Calls Tryd.prog 14 #[.slice (some ⟨b, 0, none⟩) 3 3] w fun e w' => e = .returned (.int .i64 (or3 x y z)) ∧ w' = w := by
  unfold or3
  by_cases hx : x = 0
  · subst hx
    by_cases hy : y = 0
    · subst hy
      by_cases hz : z = 0
      · subst hz
        go_enter Tryd.func14, Tryd.ntmps14
        go_wp2
        refine wp_loop_rounds 4 ?_
        rw [rounds_succ]
        go_wp2
        rw [rounds_succ]
        go_wp2
        rw [rounds_succ]
        go_wp2
        rw [rounds_succ]
        go_wp2
        go_ret
        exact ⟨by simp, rfl⟩
      · have hb : (z != 0) = true := by simp [hz]
        go_enter Tryd.func14, Tryd.ntmps14
        go_wp2
        refine wp_loop_rounds 3 ?_
        rw [rounds_succ]
        go_wp2
        rw [rounds_succ]
        go_wp2
        rw [rounds_succ]
        go_wp2
        go_ret
        exact ⟨by simp, rfl⟩
    · have hb : (y != 0) = true := by simp [hy]
      go_enter Tryd.func14, Tryd.ntmps14
      go_wp2
      refine wp_loop_rounds 2 ?_
      rw [rounds_succ]
      go_wp2
      rw [rounds_succ]
      go_wp2
      go_ret
      exact ⟨by simp, rfl⟩
  · have hb : (x != 0) = true := by simp [hx]
    go_enter Tryd.func14, Tryd.ntmps14
    go_wp2
    refine wp_loop_rounds 1 ?_
    rw [rounds_succ]
    go_wp2
    go_ret
    exact ⟨by simp, rfl⟩

theorem or_int2 (x y : Int) (b : Nat) (w : World) (h0 : w.cell? ⟨b, 0, none⟩ = some (.int .i64 x)) (h1 : w.cell? ⟨b, 1, none⟩ = some (.int .i64 y)) :
    Calls Tryd.prog 14 #[.slice (some ⟨b, 0, none⟩) 2 2] w fun e w' => e = .returned (.int .i64 (or2 x y)) ∧ w' = w := by
  unfold or2
  by_cases hx : x = 0
  · subst hx
    by_cases hy : y = 0
    · subst hy
      go_enter Tryd.func14, Tryd.ntmps14
      go_wp2
      refine wp_loop_rounds 3 ?_
      rw [rounds_succ]
      go_wp2
      rw [rounds_succ]
      go_wp2
      rw [rounds_succ]
      go_wp2
      go_ret
      exact ⟨by simp, rfl⟩
    · have hb : (y != 0) = true := by simp [hy]
      go_enter Tryd.func14, Tryd.ntmps14
      go_wp2
      refine wp_loop_rounds 2 ?_
      rw [rounds_succ]
      go_wp2
      rw [rounds_succ]
      go_wp2
      go_ret
      exact ⟨by simp, rfl⟩
  · have hb : (x != 0) = true := by simp [hx]
    go_enter Tryd.func14, Tryd.ntmps14
    go_wp2
    refine wp_loop_rounds 1 ?_
    rw [rounds_succ]
    go_wp2
    go_ret
    exact ⟨by simp, rfl⟩

theorem or_u2 (x y : Int) (b : Nat) (w : World) (h0 : w.cell? ⟨b, 0, none⟩ = some (.int .u64 x)) (h1 : w.cell? ⟨b, 1, none⟩ = some (.int .u64 y)) :
    Calls Tryd.prog 25 #[.slice (some ⟨b, 0, none⟩) 2 2] w fun e w' => e = .returned (.int .u64 (or2 x y)) ∧ w' = w := by
  unfold or2
  by_cases hx : x = 0
  · subst hx
    by_cases hy : y = 0
    · subst hy
      go_enter Tryd.func25, Tryd.ntmps25
      go_wp2
      refine wp_loop_rounds 3 ?_
      rw [rounds_succ]
      go_wp2
      rw [rounds_succ]
      go_wp2
      rw [rounds_succ]
      go_wp2
      go_ret
      exact ⟨by simp, rfl⟩
    · have hb : (y != 0) = true := by simp [hy]
      go_enter Tryd.func25, Tryd.ntmps25
      go_wp2
      refine wp_loop_rounds 2 ?_
      rw [rounds_succ]
      go_wp2
      rw [rounds_succ]
      go_wp2
      go_ret
      exact ⟨by simp, rfl⟩
  · have hb : (x != 0) = true := by simp [hx]
    go_enter Tryd.func25, Tryd.ntmps25
    go_wp2
    refine wp_loop_rounds 1 ?_
    rw [rounds_succ]
    go_wp2
    go_ret
    exact ⟨by simp, rfl⟩

theorem run_buildInts3 (w : World) (x y z : Int) : (Instr.buildSlice 29 3 #[(0, .int .i64 x), (1, .int .i64 y), (2, .int .i64 z)]).run Tryd.prog w = .ok (.slice (some ⟨w.heap.size, 0, none⟩) 3 3) (w.alloc (.cells #[.int .i64 x, .int .i64 y, .int .i64 z] 3)) := by
  simp [Instr.buildSlice, run_underlying Tryd.underlying29, Tryd.sizeOf3, Tryd.zeroValue3, Instr.fill, newRow, Value.cells]
  congr 2
  apply Array.ext
  · simp
  · intro i h1 h2
    simp at h1
    match i, h1 with
    | 0, _ => simp
    | 1, _ => simp
    | 2, _ => simp

/-- What manifest.Compare says. -/
def cfTb (a b : Tb) : Int := or3 (cmpI a.level b.level) (cmpS a.first b.first) (cmpI a.file b.file)

theorem cells5 {w : World} {b : Nat} {x0 x1 x2 x3 x4 : Value} {t : TypeId} (h : w.heap[b]? = some (.cells #[x0, x1, x2, x3, x4] t (0, 0))) :
    w.cell? ⟨b, 0, none⟩ = some x0 ∧ w.cell? ⟨b, 1, none⟩ = some x1 ∧ w.cell? ⟨b, 2, none⟩ = some x2 ∧ w.cell? ⟨b, 3, none⟩ = some x3 ∧ w.cell? ⟨b, 4, none⟩ = some x4 := by
  simp [World.cell?, h]
end Go.Proofs.YtpdbjmodgiokmaaDoor
