/- Merged out of Mb, MB, MK: helpers. -/
import Derived.Test.YtejpcoghkgjanaaGreatDoorVH
import Derived.Test.YtejpcoghkgjanaaGreatDoorVA
import Derived.Test.YtejpcoghkgjanaaGreatDoorVI
import Derived.Shelf.Strconv.Itoa3
import Derived.Deep.CutRange
import Derived.Deep.DeepCutAuto
/- Boxes of versions that an operation may write; what stays. Rows of one table, of one edit. -/
namespace Go.Proofs.YtejpcoghkgjanaaGreatDoor.Mn
open Go.RowKit Go.Gl

/-- What a step of a region keeps: blocks that are no version's box; boxes stay boxes; rows of tables. -/
structure RB (W W' : World) : Prop where
  size : W.heap.size ≤ W'.heap.size
  stay : ∀ (b : Nat) (arr : Array Value) (t : TypeId), t ≠ 38 → W.heap[b]? = some (.cells arr t (0, 0)) → W'.heap[b]? = some (.cells arr t (0, 0))
  box : ∀ (b : Nat) (x0 x1 x2 x3 : Value), W.heap[b]? = some (.cells #[x0, x1, x2, x3] 38 (0, 0)) → ∃ y0 y1 y2 y3 : Value, W'.heap[b]? = some (.cells #[y0, y1, y2, y3] 38 (0, 0))
  own : ∀ B v l, Own B W v l → Own B W' v l

theorem RB.refl (W : World) : RB W W := ⟨Nat.le_refl _, fun _ _ _ _ h => h, fun _ _ _ _ _ h => ⟨_, _, _, _, h⟩, fun _ _ _ h => h⟩
theorem RB.grow {W W' : World} (h : Grow W W') : RB W W' := ⟨h.size, fun _ _ _ _ hb => h.heap hb, fun _ _ _ _ _ hb => ⟨_, _, _, _, h.heap hb⟩, fun _ _ _ ho => owns_grow ho h⟩
theorem RB.set4 {W : World} {b : Nat} {x0 x1 x2 x3 : Value} (hb : W.heap[b]? = some (.cells #[x0, x1, x2, x3] 38 (0, 0))) (y0 y1 y2 y3 : Value) :
    RB W ((((W.setCell ⟨b, 0, none⟩ y0).setCell ⟨b, 1, none⟩ y1).setCell ⟨b, 2, none⟩ y2).setCell ⟨b, 3, none⟩ y3) := by
  refine ⟨(set4_below (Below.refl 0 W) (Nat.zero_le _) y0 y1 y2 y3).size, fun c arr t ht hc => ?_, fun c u0 u1 u2 u3 hc => ?_, fun _ _ _ ho => set4_own ho hb _ _ _ _⟩
  · by_cases hcb : c = b
    · subst hcb; rw [hb] at hc; cases hc; exact absurd rfl ht
    · exact (set4_other hcb _ _ _ _).trans hc
  · by_cases hcb : c = b
    · subst hcb; exact ⟨_, _, _, _, Proofs.YtejpcoghkgjanaaGreatDoor.Mn.set4 hb _ _ _ _⟩
    · exact ⟨_, _, _, _, (set4_other hcb _ _ _ _).trans hc⟩

theorem run_buildE1 (w : World) (aa : Option Addr) (al ac : Nat) (da : Option Addr) (dl dc : Nat) (s n wl : Int) : (Instr.buildSlice 22 1 #[(0, .agg (edCells (.slice aa al ac) (.slice da dl dc) s n wl))]).run Tryz.prog w = .ok (.slice (some ⟨w.heap.size, 0, none⟩) 1 1) (w.alloc (.cells (edCells (.slice aa al ac) (.slice da dl dc) s n wl) 41)) := by
  simp [Instr.buildSlice, run_underlying Tryz.underlying22, Tryz.sizeOf41, Tryz.zeroValue41, Instr.fill, newRow, Value.cells]
  congr 2
  apply Array.ext
  · simp
  · intro i h1 h2
    simp at h1
    match i, h1 with
    | 0, _ => simp
    | 1, _ => simp
    | 2, _ => simp
    | 3, _ => simp
    | 4, _ => simp

theorem run_buildT1 (w : World) (f l : Int) (a b : ByteArray) (s : Int) : (Instr.buildSlice 35 1 #[(0, .agg #[.int .i64 f, .int .i64 l, .string a, .string b, .int .i64 s])]).run Tryz.prog w = .ok (.slice (some ⟨w.heap.size, 0, none⟩) 1 1) (w.alloc (.cells #[.int .i64 f, .int .i64 l, .string a, .string b, .int .i64 s] 51)) := by
  simp [Instr.buildSlice, run_underlying Tryz.underlying35, Tryz.sizeOf51, Tryz.zeroValue51, Instr.fill, newRow, Value.cells]
  congr 2
  apply Array.ext
  · simp
  · intro i h1 h2
    simp at h1
    match i, h1 with
    | 0, _ => simp
    | 1, _ => simp
    | 2, _ => simp
    | 3, _ => simp
    | 4, _ => simp

theorem run_buildI1 (w : World) (x : Int) : (Instr.buildSlice 24 1 #[(0, .int .i64 x)]).run Tryz.prog w = .ok (.slice (some ⟨w.heap.size, 0, none⟩) 1 1) (w.alloc (.cells #[.int .i64 x] 3)) := by
  simp [Instr.buildSlice, run_underlying Tryz.underlying24, Tryz.sizeOf3, Tryz.zeroValue3, Instr.fill, newRow, Value.cells]
  congr 2
  apply Array.ext
  · simp
  · intro i h1 h2
    simp at h1
    match i, h1 with
    | 0, _ => simp

/-- A row of one edit in a block of its own. -/
theorem edits_one {W : World} {b : Nat} {av dv : Value} {e : EdD} (hb : W.heap[b]? = some (.cells (edCells av dv e.seq e.next e.wal) 41 (0, 0))) (hA : Tabs W av e.add) (hD : Ints W dv e.drop) : Edits W (.slice (some ⟨b, 0, none⟩) 1 1) [e] := by
  refine ⟨_, 1, rfl, .inr ⟨b, 0, rfl, lt_of_getElem? hb, fun i x hx => ?_⟩⟩
  match i, hx with
  | 0, hx =>
    cases hx
    obtain ⟨c0, c1, c2, c3, c4⟩ := cells5 hb
    exact ⟨av, dv, c0, c1, c2, c3, c4, hA, hD⟩
  | i + 1, hx => simp at hx

theorem tabs_one {W : World} {b : Nat} {t : Tb} (hb : W.heap[b]? = some (.cells #[.int .i64 t.file, .int .i64 t.level, .string t.first, .string t.last, .int .i64 t.size] 51 (0, 0))) : Tabs W (.slice (some ⟨b, 0, none⟩) 1 1) [t] := by
  refine ⟨_, 1, rfl, .inr ⟨b, 0, rfl, lt_of_getElem? hb, fun i x hx c u hu => ?_⟩⟩
  match i, hx with
  | 0, hx =>
    cases hx
    obtain ⟨c0, c1, c2, c3, c4⟩ := cells5 hb
    match c, hu with
    | 0, hu => cases hu; exact c0
    | 1, hu => cases hu; exact c1
    | 2, hu => cases hu; exact c2
    | 3, hu => cases hu; exact c3
    | 4, hu => cases hu; exact c4
    | c + 5, hu => simp [encTb] at hu
  | i + 1, hx => simp at hx

theorem tabs_nil (W : World) : Tabs W (.slice none 0 0) [] := ⟨none, 0, rfl, .inl rfl⟩
theorem ints_nil (W : World) : Ints W (.slice none 0 0) [] := ⟨none, 0, rfl, Nat.le_refl _, .inl rfl⟩
theorem ints_one {W : World} {b : Nat} {x : Int} (hb : W.heap[b]? = some (.cells #[.int .i64 x] 3 (0, 0))) : Ints W (.slice (some ⟨b, 0, none⟩) 1 1) [x] := by
  refine ⟨_, 1, rfl, Nat.le_refl _, .inr ⟨b, 0, rfl, lt_of_getElem? hb, fun i y hy => ?_⟩⟩
  match i, hy with
  | 0, hy => cases hy; simp [World.cell?, hb]
  | i + 1, hy => simp at hy

theorem slice_of_own {B : Nat} {w : World} {v : Value} {l : List Tb} (h : Own B w v l) : ∃ a c, v = .slice a l.length c := own_slice h
end Go.Proofs.YtejpcoghkgjanaaGreatDoor.Mn

/- table, File(3). -/
namespace Go.Proofs.YtejpcoghkgjanaaGreatDoor.Mn
open Go.RowKit Go.Gl

theorem table_any (f l : Int) (a b : ByteArray) (w : World) : Calls Tryz.prog 14 #[.int .i64 f, .int .i64 l, .string a, .string b] w fun e w' => e = .returned (.agg #[.int .i64 f, .int .i64 l, .string a, .string b, .int .i64 0]) ∧ Grow w w' := by
  go_enter Tryz.func14, Tryz.ntmps14
  go_wp2
  exact bodyPost_ret (v := .agg #[.int .i64 f, .int .i64 l, .string a, .string b, .int .i64 0]) (by simp [results, Tryz.results14, go_sem]) rfl ⟨rfl, by (repeat (first | exact Below.refl _ _ | assumption | refine Below.drew ?_ | refine bDrewN ?_ | refine Below.setCell ?_ (by first | omega | (simp <;> omega)) _ | refine Below.alloc ?_ (by first | omega | (simp <;> omega)) _))⟩

theorem itoa3 (w : World) : Calls Tryz.prog 61 #[.int .i64 3] w fun e w' => e = .returned (.string ⟨#[51]⟩) ∧ w' = w := by
  have h := Any.strconv_Itoa_small Tryz.itoa 3 (by decide) w
  have hd : Lib.decDigits 3 = [51] := by first | rfl | decide | simp [Lib.decDigits] | (unfold Lib.decDigits; rfl)
  rw [hd] at h
  exact h

theorem six3 (w : World) : Calls Tryz.prog 31 #[.int .i64 3] w fun e w' => e = .returned (.string ⟨#[48, 48, 48, 48, 48, 51]⟩) ∧ w' = w := by
  go_enter Tryz.func31, Tryz.ntmps31
  go_wp2_with (go_at_call 61; (with_reducible refine (itoa3 _).mono ?_); rintro e w' ⟨rfl, rfl⟩)
  refine wp_loop_rounds 6 ?_
  rw [rounds_succ]
  go_wp2
  rw [rounds_succ]
  go_wp2
  rw [rounds_succ]
  go_wp2
  rw [rounds_succ]
  go_wp2
  rw [rounds_succ]
  go_wp2
  rw [rounds_succ]
  go_wp2
  go_ret
  exact ⟨rfl, rfl⟩

theorem file3 (w : World) : Calls Tryz.prog 15 #[.int .i64 3] w fun e w' => e = .returned (.string ⟨#[116, 45, 48, 48, 48, 48, 48, 51]⟩) ∧ w' = w := by
  go_enter Tryz.func15, Tryz.ntmps15
  go_wp2_with (go_at_call 31; (with_reducible refine (six3 _).mono ?_); rintro e w' ⟨rfl, rfl⟩)
  go_ret
  exact ⟨rfl, rfl⟩
end Go.Proofs.YtejpcoghkgjanaaGreatDoor.Mn

/- known: the chapter's example. -/
namespace Go.Proofs.YtejpcoghkgjanaaGreatDoor.Mn
open Go.RowKit Go.Gl

def kt1 : Tb := ⟨1, 1, ⟨#[97]⟩, ⟨#[99]⟩, 0⟩
def kt2 : Tb := ⟨2, 1, ⟨#[99]⟩, ⟨#[100]⟩, 0⟩
def kt3 : Tb := ⟨2, 0, ⟨#[99]⟩, ⟨#[100]⟩, 0⟩
def kE1 : EdD := ⟨[kt1], [], 0, 2, 0⟩
def kE2 : EdD := ⟨[kt2], [], 0, 0, 0⟩
def kE3 : EdD := ⟨[kt3], [], 0, 0, 0⟩
def kE4 : EdD := ⟨[], [7], 0, 0, 0⟩
def kV : VerD := ⟨[kt1], 0, 2, 0⟩

theorem k1 : applyAllD verZero [kE1] = (0, kV) := by kernel_rfl
theorem k2 : applyAllD kV [kE2] = (15, verZero) := by kernel_rfl
theorem k3 : applyAllD kV [kE3] = (0, ⟨[kt3, kt1], 0, 2, 0⟩) := by kernel_rfl
theorem k4 : applyAllD kV [kE4] = (4, verZero) := by kernel_rfl

/-- The slots of known's regions 2 and 3. -/
def SK (W0 : World) (cv : Value) (V : VerD) (t : Tb) (r : Int × VerD) (i : Nat) (v : Value) (W : World) : Prop :=
  match i with
  | 0 => v = .agg (verCells cv V.seq V.next V.wal)
  | 1 => v = .agg #[.int .i64 t.file, .int .i64 t.level, .string t.first, .string t.last, .int .i64 t.size]
  | 2 => ∃ b, v = .slice (some ⟨b, 0, none⟩) 1 1 ∧ W.heap[b]? = some (.cells #[.int .i64 t.file, .int .i64 t.level, .string t.first, .string t.last, .int .i64 t.size] 51 (0, 0))
  | 3 => ∃ b, v = .agg (edCells (.slice (some ⟨b, 0, none⟩) 1 1) (.slice none 0 0) 0 0 0) ∧ W.heap[b]? = some (.cells #[.int .i64 t.file, .int .i64 t.level, .string t.first, .string t.last, .int .i64 t.size] 51 (0, 0))
  | 4 => ∃ b bt, v = .slice (some ⟨b, 0, none⟩) 1 1 ∧ W.heap[b]? = some (.cells (edCells (.slice (some ⟨bt, 0, none⟩) 1 1) (.slice none 0 0) 0 0 0) 41 (0, 0)) ∧ W.heap[bt]? = some (.cells #[.int .i64 t.file, .int .i64 t.level, .string t.first, .string t.last, .int .i64 t.size] 51 (0, 0))
  | 5 => ∃ a n c, v = .tuple #[.agg (verCells (.slice a n c) r.2.seq r.2.next r.2.wal), .int .i64 r.1]
  | 6 => ∃ a n c, v = .tuple #[.agg (verCells (.slice a n c) r.2.seq r.2.next r.2.wal), .int .i64 r.1]
  | 7 => ∃ a n c, v = .agg (verCells (.slice a n c) r.2.seq r.2.next r.2.wal)
  | 8 => v = .int .i64 r.1
  | 9 => ∃ b, W0.heap.size ≤ b ∧ v = .pointer (some ⟨b, 0, none⟩) ∧ ∃ x0 x1 x2 x3 : Value, W.heap[b]? = some (.cells #[x0, x1, x2, x3] 38 (0, 0))
  | 11 => v = .int .i64 r.1
  | _ => True

theorem SK.keep {W0 : World} {cv : Value} {V : VerD} {t : Tb} {r : Int × VerD} : ∀ (j : Nat) (v : Value) (W W' : World), RB W W' → SK W0 cv V t r j v W → SK W0 cv V t r j v W' := by
  intro j v W W' hR h
  unfold SK at h
  split at h
  · exact h
  · exact h
  · obtain ⟨b, hv, hc⟩ := h; exact ⟨b, hv, hR.stay _ _ _ (by decide) hc⟩
  · obtain ⟨b, hv, hc⟩ := h; exact ⟨b, hv, hR.stay _ _ _ (by decide) hc⟩
  · obtain ⟨b, bt, hv, hc, hd⟩ := h; exact ⟨b, bt, hv, hR.stay _ _ _ (by decide) hc, hR.stay _ _ _ (by decide) hd⟩
  · exact h
  · exact h
  · exact h
  · exact h
  · obtain ⟨b, hb, hv, x0, x1, x2, x3, hc⟩ := h; exact ⟨b, hb, hv, hR.box _ _ _ _ _ hc⟩
  · exact h
  · unfold SK; split <;> first | trivial | (exfalso; simp_all)

/-- The world while they run. -/
def TK (W0 : World) (_ : Array Bool) (_ : Act) (W : World) : Prop := Below W0.heap.size W0 W
end Go.Proofs.YtejpcoghkgjanaaGreatDoor.Mn
