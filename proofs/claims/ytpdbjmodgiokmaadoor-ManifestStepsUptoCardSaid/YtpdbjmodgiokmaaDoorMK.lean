/- known: the chapter's example. -/
import Derived.Test.YtpdbjmodgiokmaaDoorMb
import Derived.Test.YtpdbjmodgiokmaaDoorMB
import Derived.Test.YtpdbjmodgiokmaaDoorMP
import Derived.Deep.CutRange
import Derived.Deep.DeepCutAuto
namespace Go.Proofs.YtpdbjmodgiokmaaDoor
open Go.RowKit Go.Gl

def kt1 : Tb := ⟨1, 1, ⟨#[97]⟩, ⟨#[99]⟩, 0⟩
def kt2 : Tb := ⟨2, 1, ⟨#[99]⟩, ⟨#[100]⟩, 0⟩
def kt3 : Tb := ⟨2, 0, ⟨#[99]⟩, ⟨#[100]⟩, 0⟩
def kE1 : EdD := ⟨[kt1], [], 0, 2, 0⟩
def kE2 : EdD := ⟨[kt2], [], 0, 0, 0⟩
def kE3 : EdD := ⟨[kt3], [], 0, 0, 0⟩
def kE4 : EdD := ⟨[], [7], 0, 0, 0⟩
def kV : VerD := ⟨[kt1], 0, 2, 0⟩

theorem k1 : applyAllD verZero [kE1] = (0, kV) := by kernel_rfl
theorem k2 : applyAllD kV [kE2] = (15, verZero) := by kernel_rfl
theorem k3 : applyAllD kV [kE3] = (0, ⟨[kt3, kt1], 0, 2, 0⟩) := by kernel_rfl
theorem k4 : applyAllD kV [kE4] = (4, verZero) := by kernel_rfl

/-- The slots of known's regions 2 and 3. -/
def SK (W0 : World) (cv : Value) (V : VerD) (t : Tb) (r : Int × VerD) (i : Nat) (v : Value) (W : World) : Prop :=
  match i with
  | 0 => v = .agg (verCells cv V.seq V.next V.wal)
  | 1 => v = .agg #[.int .i64 t.file, .int .i64 t.level, .string t.first, .string t.last, .int .i64 t.size]
  | 2 => ∃ b, v = .slice (some ⟨b, 0, none⟩) 1 1 ∧ W.heap[b]? = some (.cells #[.int .i64 t.file, .int .i64 t.level, .string t.first, .string t.last, .int .i64 t.size] 38 (0, 0))
  | 3 => ∃ b, v = .agg (edCells (.slice (some ⟨b, 0, none⟩) 1 1) (.slice none 0 0) 0 0 0) ∧ W.heap[b]? = some (.cells #[.int .i64 t.file, .int .i64 t.level, .string t.first, .string t.last, .int .i64 t.size] 38 (0, 0))
  | 4 => ∃ b bt, v = .slice (some ⟨b, 0, none⟩) 1 1 ∧ W.heap[b]? = some (.cells (edCells (.slice (some ⟨bt, 0, none⟩) 1 1) (.slice none 0 0) 0 0 0) 31 (0, 0)) ∧ W.heap[bt]? = some (.cells #[.int .i64 t.file, .int .i64 t.level, .string t.first, .string t.last, .int .i64 t.size] 38 (0, 0))
  | 5 => ∃ a n c, v = .tuple #[.agg (verCells (.slice a n c) r.2.seq r.2.next r.2.wal), .int .i64 r.1]
  | 6 => ∃ a n c, v = .tuple #[.agg (verCells (.slice a n c) r.2.seq r.2.next r.2.wal), .int .i64 r.1]
  | 7 => ∃ a n c, v = .agg (verCells (.slice a n c) r.2.seq r.2.next r.2.wal)
  | 8 => v = .int .i64 r.1
  | 9 => ∃ b, W0.heap.size ≤ b ∧ v = .pointer (some ⟨b, 0, none⟩) ∧ ∃ x0 x1 x2 x3 : Value, W.heap[b]? = some (.cells #[x0, x1, x2, x3] 27 (0, 0))
  | 11 => v = .int .i64 r.1
  | _ => True

theorem SK.keep {W0 : World} {cv : Value} {V : VerD} {t : Tb} {r : Int × VerD} : ∀ (j : Nat) (v : Value) (W W' : World), RB W W' → SK W0 cv V t r j v W → SK W0 cv V t r j v W' := by
  intro j v W W' hR h
  unfold SK at h
  split at h
  · exact h
  · exact h
  · obtain ⟨b, hv, hc⟩ := h; exact ⟨b, hv, hR.stay _ _ _ (by decide) hc⟩
  · obtain ⟨b, hv, hc⟩ := h; exact ⟨b, hv, hR.stay _ _ _ (by decide) hc⟩
  · obtain ⟨b, bt, hv, hc, hd⟩ := h; exact ⟨b, bt, hv, hR.stay _ _ _ (by decide) hc, hR.stay _ _ _ (by decide) hd⟩
  · exact h
  · exact h
  · exact h
  · exact h
  · obtain ⟨b, hb, hv, x0, x1, x2, x3, hc⟩ := h; exact ⟨b, hb, hv, hR.box _ _ _ _ _ hc⟩
  · exact h
  · unfold SK; split <;> first | trivial | (exfalso; simp_all)

/-- The world while they run. -/
def TK (W0 : World) (_ : Array Bool) (_ : Act) (W : World) : Prop := Below W0.heap.size W0 W
end Go.Proofs.YtpdbjmodgiokmaaDoor
