/- The order of links: net.Links' closure. -/
import Derived.Test.YtbanfilgokideaaS1
import Derived.Test.YtbanfilgokideaaLayP
import Derived.Sort.Grow
import Derived.Shelf.SlSortCmp.InsertionK
namespace Go.Proofs.Ytbanfilgokideaa
open Go.RowKit Go.Gl Go.Sort Go.Shelf

abbrev Lk := Int × Int × Int
def encLk (x : Lk) : List Value := [.int .i64 x.1, .int .i64 x.2.1, .int .i64 x.2.2]

/-- What the closure says. -/
def cfLk (x y : Lk) : Int := if cmpI x.1 y.1 = 0 then cmpI x.2.1 y.2.1 else cmpI x.1 y.1

theorem drewN_one (w : World) : w.drew = w.drewN 1 := rfl

theorem run_buildInts2 (w : World) (x y : Int) : (Instr.buildSlice 37 2 #[(0, .int .i64 x), (1, .int .i64 y)]).run Try.prog w = .ok (.slice (some ⟨w.heap.size, 0, none⟩) 2 2) (w.alloc (.cells #[.int .i64 x, .int .i64 y] 3)) := by
  simp [Instr.buildSlice, run_underlying Try.underlying37, Try.sizeOf3, Try.zeroValue3, Instr.fill, newRow, Value.cells]
  congr 2
  apply Array.ext
  · simp
  · intro i h1 h2
    simp at h1
    match i, h1 with
    | 0, _ => simp
    | 1, _ => simp

set_option maxHeartbeats 1000000 in
theorem closure36 (x y : Lk) (W : World) : Calls Try.prog 36 #[.agg #[.int .i64 x.1, .int .i64 x.2.1, .int .i64 x.2.2], .agg #[.int .i64 y.1, .int .i64 y.2.1, .int .i64 y.2.2]] W fun e w' => e = .returned (.int .i64 (cfLk x y)) ∧ ∃ q os', w' = grow (W.drewN q) os' := by
  obtain ⟨x0, x1, x2⟩ := x
  obtain ⟨y0, y1, y2⟩ := y
  simp only [cfLk]
  have hc0 := compare_int x0 y0
  have hc1 := compare_int x1 y1
  generalize cmpI x0 y0 = c0 at *
  generalize cmpI x1 y1 = c1 at *
  have hor := or_two c0 c1
  generalize hres : (if c0 = 0 then c1 else c0) = res at *
  have b0 : ((W.alloc (.cells #[.int .i64 x0, .int .i64 x1, .int .i64 x2] 69)).alloc (.cells #[.int .i64 y0, .int .i64 y1, .int .i64 y2] 69)).heap[W.heap.size]? = some (.cells #[.int .i64 x0, .int .i64 x1, .int .i64 x2] 69 (0, 0)) := (heap_alloc_old _ _ (by simp)).trans (heap_alloc_new _ _)
  have b1 : ((W.alloc (.cells #[.int .i64 x0, .int .i64 x1, .int .i64 x2] 69)).alloc (.cells #[.int .i64 y0, .int .i64 y1, .int .i64 y2] 69)).heap[W.heap.size + 1]? = some (.cells #[.int .i64 y0, .int .i64 y1, .int .i64 y2] 69 (0, 0)) := by
    have := heap_alloc_new (W.alloc (.cells #[.int .i64 x0, .int .i64 x1, .int .i64 x2] 69)) (.cells #[.int .i64 y0, .int .i64 y1, .int .i64 y2] 69)
    simpa using this
  have hsz : ((W.alloc (.cells #[.int .i64 x0, .int .i64 x1, .int .i64 x2] 69)).alloc (.cells #[.int .i64 y0, .int .i64 y1, .int .i64 y2] 69)).heap.size = W.heap.size + 2 := by simp
  obtain ⟨d0, d1, d2, _⟩ := cells3 b0
  obtain ⟨e0, e1, e2, _⟩ := cells3 b1
  have l0 := lt_of_getElem? b0
  have l1 := lt_of_getElem? b1
  have hfin : ∃ os, (W.alloc (.cells #[.int .i64 x0, .int .i64 x1, .int .i64 x2] 69)).alloc (.cells #[.int .i64 y0, .int .i64 y1, .int .i64 y2] 69) = grow W os := ⟨_, by rw [alloc_eq_grow, alloc_eq_grow, grow_grow]⟩
  have Hc0 := Lib.hid hc0
  have Hc1 := Lib.hid hc1
  have Hor := Lib.hid hor
  have Hfin := Lib.hid hfin
  clear b0 b1 hc0 hc1 hor hfin hres
  go_enter Try.func36, Try.ntmps36
  go_wp2_with fail
  generalize (W.alloc (.cells #[.int .i64 x0, .int .i64 x1, .int .i64 x2] 69)).alloc (.cells #[.int .i64 y0, .int .i64 y1, .int .i64 y2] 69) = w0 at *
  have hcl := Grow.cells (w := w0)
  clear hsz
  refine wp_region_pi (fun V => Below w0.heap.size w0 V)
    [(0, false), (1, false), (2, false), (3, false), (5, false), (6, false), (7, false), (8, false), (4, true), (9, true), (10, true), (11, true), (12, false)] (by kernel_rfl) (by kernel_rfl) (fun c a d v w h => by cases d <;> exact h) (by (repeat (first | exact Below.refl _ _ | assumption | refine Below.drew ?_ | refine bDrewN ?_ | refine Below.setCell ?_ (by first | omega | (simp <;> omega)) _ | refine Below.alloc ?_ (by first | omega | (simp <;> omega)) _))) ?_
  simp only [arrange, nth]
  repeat (first | (refine wpPi_quiet (v := ?_) (by rfl) (fun W hW => ?_) ?_; rotate_left; (obtain hW := hW; go_simp; with_reducible rfl); simp only [Act.put, List.setIfInBounds_toArray, List.set_cons_zero, List.set_cons_succ]) | (refine wpPi_off (by rfl) ?_; simp only [Act.put, List.setIfInBounds_toArray, List.set_cons_zero, List.set_cons_succ]))
  refine wpPi_call (by rfl) (by go_simp) (Hc0.out _) ?_
  rintro e w2 ⟨rfl, rfl⟩
  refine ⟨_, rfl, by (repeat (first | exact Below.refl _ _ | assumption | refine Below.drew ?_ | refine bDrewN ?_ | refine Below.setCell ?_ (by first | omega | (simp <;> omega)) _ | refine Below.alloc ?_ (by first | omega | (simp <;> omega)) _)), ?_⟩
  try simp only [Act.put, List.setIfInBounds_toArray, List.set_cons_zero, List.set_cons_succ]
  refine wpPi_call (by rfl) (by go_simp) (Hc1.out _) ?_
  rintro e w2 ⟨rfl, rfl⟩
  refine ⟨_, rfl, by (repeat (first | exact Below.refl _ _ | assumption | refine Below.drew ?_ | refine bDrewN ?_ | refine Below.setCell ?_ (by first | omega | (simp <;> omega)) _ | refine Below.alloc ?_ (by first | omega | (simp <;> omega)) _)), ?_⟩
  try simp only [Act.put, List.setIfInBounds_toArray, List.set_cons_zero, List.set_cons_succ]
  refine wpPi_run (by rfl) (v := .slice (some ⟨w0.drew.heap.size, 0, none⟩) 2 2) (w' := World.alloc w0.drew (.cells #[.int .i64 c0, .int .i64 c1] 3)) ?_ (by (repeat (first | exact Below.refl _ _ | assumption | refine Below.drew ?_ | refine bDrewN ?_ | refine Below.setCell ?_ (by first | omega | (simp <;> omega)) _ | refine Below.alloc ?_ (by first | omega | (simp <;> omega)) _))) ?_
  · unfold execOp
    simp only [Act.eval]
    simp [run_buildInts2]
  try simp only [Act.put, List.setIfInBounds_toArray, List.set_cons_zero, List.set_cons_succ]
  refine wpPi_call (by rfl) (by go_simp) (Hor.out w0.drew.heap.size (World.alloc w0.drew (.cells #[.int .i64 c0, .int .i64 c1] 3)) (by unfold World.cell?; rw [heap_alloc_new]; rfl) (by unfold World.cell?; rw [heap_alloc_new]; rfl)) ?_
  rintro e w2 ⟨rfl, rfl⟩
  refine ⟨_, rfl, by (repeat (first | exact Below.refl _ _ | assumption | refine Below.drew ?_ | refine bDrewN ?_ | refine Below.setCell ?_ (by first | omega | (simp <;> omega)) _ | refine Below.alloc ?_ (by first | omega | (simp <;> omega)) _)), ?_⟩
  try simp only [Act.put, List.setIfInBounds_toArray, List.set_cons_zero, List.set_cons_succ]
  repeat (first | (refine wpPi_quiet (v := ?_) (by rfl) (fun W hW => ?_) ?_; rotate_left; (obtain hW := hW; go_simp; with_reducible rfl); simp only [Act.put, List.setIfInBounds_toArray, List.set_cons_zero, List.set_cons_succ]) | (refine wpPi_off (by rfl) ?_; simp only [Act.put, List.setIfInBounds_toArray, List.set_cons_zero, List.set_cons_succ]))
  refine wpPi_nil ?_
  go_wp2_with fail
  go_ret
  obtain ⟨os, hos⟩ := Hfin.out
  refine ⟨rfl, 1, os ++ #[.cells #[.int .i64 c0, .int .i64 c1] 3], ?_⟩
  rw [alloc_eq_grow, hos, drew_grow, grow_grow]
  rfl
end Go.Proofs.Ytbanfilgokideaa
