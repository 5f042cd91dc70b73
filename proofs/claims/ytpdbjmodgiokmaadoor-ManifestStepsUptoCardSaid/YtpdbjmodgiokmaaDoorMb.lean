/- Boxes of versions that an operation may write; what stays. Rows of one table, of one edit. -/
import Derived.Test.YtpdbjmodgiokmaaDoorM9
import Derived.Test.YtpdbjmodgiokmaaDoorGr
namespace Go.Proofs.YtpdbjmodgiokmaaDoor
open Go.RowKit Go.Gl

/-- What a step of a region keeps: blocks that are no version's box; boxes stay boxes; rows of tables. -/
structure RB (W W' : World) : Prop where
  size : W.heap.size ≤ W'.heap.size
  stay : ∀ (b : Nat) (arr : Array Value) (t : TypeId), t ≠ 27 → W.heap[b]? = some (.cells arr t (0, 0)) → W'.heap[b]? = some (.cells arr t (0, 0))
  box : ∀ (b : Nat) (x0 x1 x2 x3 : Value), W.heap[b]? = some (.cells #[x0, x1, x2, x3] 27 (0, 0)) → ∃ y0 y1 y2 y3 : Value, W'.heap[b]? = some (.cells #[y0, y1, y2, y3] 27 (0, 0))
  own : ∀ B v l, Own B W v l → Own B W' v l

theorem RB.refl (W : World) : RB W W := ⟨Nat.le_refl _, fun _ _ _ _ h => h, fun _ _ _ _ _ h => ⟨_, _, _, _, h⟩, fun _ _ _ h => h⟩
theorem RB.grow {W W' : World} (h : Grow W W') : RB W W' := ⟨h.size, fun _ _ _ _ hb => h.heap hb, fun _ _ _ _ _ hb => ⟨_, _, _, _, h.heap hb⟩, fun _ _ _ ho => owns_grow ho h⟩
theorem RB.set4 {W : World} {b : Nat} {x0 x1 x2 x3 : Value} (hb : W.heap[b]? = some (.cells #[x0, x1, x2, x3] 27 (0, 0))) (y0 y1 y2 y3 : Value) :
    RB W ((((W.setCell ⟨b, 0, none⟩ y0).setCell ⟨b, 1, none⟩ y1).setCell ⟨b, 2, none⟩ y2).setCell ⟨b, 3, none⟩ y3) := by
  refine ⟨(set4_below (Below.refl 0 W) (Nat.zero_le _) y0 y1 y2 y3).size, fun c arr t ht hc => ?_, fun c u0 u1 u2 u3 hc => ?_, fun _ _ _ ho => set4_own ho hb _ _ _ _⟩
  · by_cases hcb : c = b
    · subst hcb; rw [hb] at hc; cases hc; exact absurd rfl ht
    · exact (set4_other hcb _ _ _ _).trans hc
  · by_cases hcb : c = b
    · subst hcb; exact ⟨_, _, _, _, Proofs.YtpdbjmodgiokmaaDoor.set4 hb _ _ _ _⟩
    · exact ⟨_, _, _, _, (set4_other hcb _ _ _ _).trans hc⟩

theorem run_buildE1 (w : World) (aa : Option Addr) (al ac : Nat) (da : Option Addr) (dl dc : Nat) (s n wl : Int) : (Instr.buildSlice 22 1 #[(0, .agg (edCells (.slice aa al ac) (.slice da dl dc) s n wl))]).run Tryd.prog w = .ok (.slice (some ⟨w.heap.size, 0, none⟩) 1 1) (w.alloc (.cells (edCells (.slice aa al ac) (.slice da dl dc) s n wl) 31)) := by
  simp [Instr.buildSlice, run_underlying Tryd.underlying22, Tryd.sizeOf31, Tryd.zeroValue31, Instr.fill, newRow, Value.cells]
  congr 2
  apply Array.ext
  · simp
  · intro i h1 h2
    simp at h1
    match i, h1 with
    | 0, _ => simp
    | 1, _ => simp
    | 2, _ => simp
    | 3, _ => simp
    | 4, _ => simp

theorem run_buildT1 (w : World) (f l : Int) (a b : ByteArray) (s : Int) : (Instr.buildSlice 24 1 #[(0, .agg #[.int .i64 f, .int .i64 l, .string a, .string b, .int .i64 s])]).run Tryd.prog w = .ok (.slice (some ⟨w.heap.size, 0, none⟩) 1 1) (w.alloc (.cells #[.int .i64 f, .int .i64 l, .string a, .string b, .int .i64 s] 38)) := by
  simp [Instr.buildSlice, run_underlying Tryd.underlying24, Tryd.sizeOf38, Tryd.zeroValue38, Instr.fill, newRow, Value.cells]
  congr 2
  apply Array.ext
  · simp
  · intro i h1 h2
    simp at h1
    match i, h1 with
    | 0, _ => simp
    | 1, _ => simp
    | 2, _ => simp
    | 3, _ => simp
    | 4, _ => simp

theorem run_buildI1 (w : World) (x : Int) : (Instr.buildSlice 29 1 #[(0, .int .i64 x)]).run Tryd.prog w = .ok (.slice (some ⟨w.heap.size, 0, none⟩) 1 1) (w.alloc (.cells #[.int .i64 x] 3)) := by
  simp [Instr.buildSlice, run_underlying Tryd.underlying29, Tryd.sizeOf3, Tryd.zeroValue3, Instr.fill, newRow, Value.cells]
  congr 2
  apply Array.ext
  · simp
  · intro i h1 h2
    simp at h1
    match i, h1 with
    | 0, _ => simp

/-- A row of one edit in a block of its own. -/
theorem edits_one {W : World} {b : Nat} {av dv : Value} {e : EdD} (hb : W.heap[b]? = some (.cells (edCells av dv e.seq e.next e.wal) 31 (0, 0))) (hA : Tabs W av e.add) (hD : Ints W dv e.drop) : Edits W (.slice (some ⟨b, 0, none⟩) 1 1) [e] := by
  refine ⟨_, 1, rfl, .inr ⟨b, 0, rfl, lt_of_getElem? hb, fun i x hx => ?_⟩⟩
  match i, hx with
  | 0, hx =>
    cases hx
    obtain ⟨c0, c1, c2, c3, c4⟩ := cells5 hb
    exact ⟨av, dv, c0, c1, c2, c3, c4, hA, hD⟩
  | i + 1, hx => simp at hx

theorem tabs_one {W : World} {b : Nat} {t : Tb} (hb : W.heap[b]? = some (.cells #[.int .i64 t.file, .int .i64 t.level, .string t.first, .string t.last, .int .i64 t.size] 38 (0, 0))) : Tabs W (.slice (some ⟨b, 0, none⟩) 1 1) [t] := by
  refine ⟨_, 1, rfl, .inr ⟨b, 0, rfl, lt_of_getElem? hb, fun i x hx c u hu => ?_⟩⟩
  match i, hx with
  | 0, hx =>
    cases hx
    obtain ⟨c0, c1, c2, c3, c4⟩ := cells5 hb
    match c, hu with
    | 0, hu => cases hu; exact c0
    | 1, hu => cases hu; exact c1
    | 2, hu => cases hu; exact c2
    | 3, hu => cases hu; exact c3
    | 4, hu => cases hu; exact c4
    | c + 5, hu => simp [encTb] at hu
  | i + 1, hx => simp at hx

theorem tabs_nil (W : World) : Tabs W (.slice none 0 0) [] := ⟨none, 0, rfl, .inl rfl⟩
theorem ints_nil (W : World) : Ints W (.slice none 0 0) [] := ⟨none, 0, rfl, Nat.le_refl _, .inl rfl⟩
theorem ints_one {W : World} {b : Nat} {x : Int} (hb : W.heap[b]? = some (.cells #[.int .i64 x] 3 (0, 0))) : Ints W (.slice (some ⟨b, 0, none⟩) 1 1) [x] := by
  refine ⟨_, 1, rfl, Nat.le_refl _, .inr ⟨b, 0, rfl, lt_of_getElem? hb, fun i y hy => ?_⟩⟩
  match i, hy with
  | 0, hy => cases hy; simp [World.cell?, hb]
  | i + 1, hy => simp at hy

theorem slice_of_own {B : Nat} {w : World} {v : Value} {l : List Tb} (h : Own B w v l) : ∃ a c, v = .slice a l.length c := own_slice h
end Go.Proofs.YtpdbjmodgiokmaaDoor
