/- Region 26 of manifest.apply (three sums of two, laid in any order): its slots and its world. -/
import Derived.Test.YtpdbjmodgiokmaaDoorM9
import Derived.Test.YtpdbjmodgiokmaaDoorGr
namespace Go.Proofs.YtpdbjmodgiokmaaDoor
open Go.RowKit Go.Gl

/-- The world while region 26 runs: which of the three numbers have been laid. -/
structure T26 (w : World) (B1 : Nat) (tv : Value) (tabs : List Tb) (V : VerD) (E : EdD) (av dv : Value) (b1 b2 b3 : Bool) (W : World) : Prop where
  own : Own B1 W tv tabs
  vb : W.heap[w.heap.size]? = some (.cells (verCells tv (cond b1 (or2 E.seq V.seq) V.seq) (cond b2 (or2 E.next V.next) V.next) (cond b3 (or2 E.wal V.wal) V.wal)) 27 (0, 0))
  eb : W.heap[w.heap.size + 1]? = some (.cells (edCells av dv E.seq E.next E.wal) 31 (0, 0))
  rb : W.heap[w.heap.size + 1 + 1]? = some (.cells (verCells (.slice none 0 0) 0 0 0) 27 (0, 0))
  below : Below w.heap.size w W

section
variable {w : World} {B1 : Nat} {tv : Value} {tabs : List Tb} {V : VerD} {E : EdD} {av dv : Value} {b1 b2 b3 : Bool} {W W' : World}

theorem T26.grow (h : T26 w B1 tv tabs V E av dv b1 b2 b3 W) (hg : Grow W W') : T26 w B1 tv tabs V E av dv b1 b2 b3 W' :=
  ⟨owns_grow h.own hg, hg.heap h.vb, hg.heap h.eb, hg.heap h.rb, h.below.trans (hg.mono h.below.size)⟩

theorem T26.set1 (h : T26 w B1 tv tabs V E av dv b1 b2 b3 W) : T26 w B1 tv tabs V E av dv true b2 b3 (W.setCell ⟨w.heap.size, 1, none⟩ (.int .u64 (or2 E.seq V.seq))) :=
  ⟨own_other h.own h.vb (by decide), setCell_heap h.vb 1 _, (Below.heap_setCell _ _ _ _ (by show w.heap.size + 1 ≠ w.heap.size; omega)).trans h.eb, (Below.heap_setCell _ _ _ _ (by show w.heap.size + 1 + 1 ≠ w.heap.size; omega)).trans h.rb, h.below.setCell (Nat.le_refl _) _⟩
theorem T26.set2 (h : T26 w B1 tv tabs V E av dv b1 b2 b3 W) : T26 w B1 tv tabs V E av dv b1 true b3 (W.setCell ⟨w.heap.size, 2, none⟩ (.int .i64 (or2 E.next V.next))) :=
  ⟨own_other h.own h.vb (by decide), setCell_heap h.vb 2 _, (Below.heap_setCell _ _ _ _ (by show w.heap.size + 1 ≠ w.heap.size; omega)).trans h.eb, (Below.heap_setCell _ _ _ _ (by show w.heap.size + 1 + 1 ≠ w.heap.size; omega)).trans h.rb, h.below.setCell (Nat.le_refl _) _⟩
theorem T26.set3 (h : T26 w B1 tv tabs V E av dv b1 b2 b3 W) : T26 w B1 tv tabs V E av dv b1 b2 true (W.setCell ⟨w.heap.size, 3, none⟩ (.int .i64 (or2 E.wal V.wal))) :=
  ⟨own_other h.own h.vb (by decide), setCell_heap h.vb 3 _, (Below.heap_setCell _ _ _ _ (by show w.heap.size + 1 ≠ w.heap.size; omega)).trans h.eb, (Below.heap_setCell _ _ _ _ (by show w.heap.size + 1 + 1 ≠ w.heap.size; omega)).trans h.rb, h.below.setCell (Nat.le_refl _) _⟩
end

def T26L (w : World) (B1 : Nat) (tv : Value) (tabs : List Tb) (V : VerD) (E : EdD) (av dv : Value) (l : Array Bool) (_ : Act) (W : World) : Prop := T26 w B1 tv tabs V E av dv (l.getD 19 false) (l.getD 21 false) (l.getD 23 false) W

section
variable {w : World} {B1 : Nat} {tv : Value} {tabs : List Tb} {V : VerD} {E : EdD} {av dv : Value} {W W' : World} {l : Array Bool} {a a' : Act}
theorem T26L.other (i : Nat) (h1 : i ≠ 19) (h2 : i ≠ 21) (h3 : i ≠ 23) (h : T26L w B1 tv tabs V E av dv l a W) : T26L w B1 tv tabs V E av dv (l.setIfInBounds i true) a' W := by
  unfold T26L
  rw [getD_set_ne false h1, getD_set_ne false h2, getD_set_ne false h3]
  exact h
theorem T26L.grow (h : T26L w B1 tv tabs V E av dv l a W) (hg : Grow W W') : T26L w B1 tv tabs V E av dv l a W' := T26.grow h hg
theorem T26L.st1 (hs : 19 < l.size) (h : T26L w B1 tv tabs V E av dv l a W) : T26L w B1 tv tabs V E av dv (l.setIfInBounds 19 true) a' (W.setCell ⟨w.heap.size, 1, none⟩ (.int .u64 (or2 E.seq V.seq))) := by
  unfold T26L
  rw [listed_same hs, getD_set_ne false (show 19 ≠ 21 by decide), getD_set_ne false (show 19 ≠ 23 by decide)]
  exact T26.set1 h
theorem T26L.st2 (hs : 21 < l.size) (h : T26L w B1 tv tabs V E av dv l a W) : T26L w B1 tv tabs V E av dv (l.setIfInBounds 21 true) a' (W.setCell ⟨w.heap.size, 2, none⟩ (.int .i64 (or2 E.next V.next))) := by
  unfold T26L
  rw [listed_same hs, getD_set_ne false (show 21 ≠ 19 by decide), getD_set_ne false (show 21 ≠ 23 by decide)]
  exact T26.set2 h
theorem T26L.st3 (hs : 23 < l.size) (h : T26L w B1 tv tabs V E av dv l a W) : T26L w B1 tv tabs V E av dv (l.setIfInBounds 23 true) a' (W.setCell ⟨w.heap.size, 3, none⟩ (.int .i64 (or2 E.wal V.wal))) := by
  unfold T26L
  rw [listed_same hs, getD_set_ne false (show 23 ≠ 19 by decide), getD_set_ne false (show 23 ≠ 21 by decide)]
  exact T26.set3 h
theorem T26L.vb0 (h : T26L w B1 tv tabs V E av dv l a W) : W.heap[w.heap.size]? = some (.cells (verCells tv (cond (l.getD 19 false) (or2 E.seq V.seq) V.seq) (cond (l.getD 21 false) (or2 E.next V.next) V.next) (cond (l.getD 23 false) (or2 E.wal V.wal) V.wal)) 27 (0, 0)) := T26.vb h
theorem T26L.eb (h : T26L w B1 tv tabs V E av dv l a W) : W.heap[w.heap.size + 1]? = some (.cells (edCells av dv E.seq E.next E.wal) 31 (0, 0)) := T26.eb h
end

/-- All blocks but one stay. -/
def Rest (vb : Nat) (W W' : World) : Prop := ∀ b o, b ≠ vb → W.heap[b]? = some o → W'.heap[b]? = some o
theorem Rest.refl (vb : Nat) (W : World) : Rest vb W W := fun _ _ _ h => h
theorem Rest.grow {vb : Nat} {W W' : World} (h : Grow W W') : Rest vb W W' := fun _ _ _ hb => h.heap hb
theorem Rest.set (vb : Nat) (W : World) (i : Nat) (v : Value) : Rest vb W (W.setCell ⟨vb, i, none⟩ v) := fun b o hb h => (Below.heap_setCell _ _ _ _ hb).trans h

def S26 (w : World) (V : VerD) (E : EdD) (i : Nat) (v : Value) (W : World) : Prop :=
  match i with
  | 0 => v = .pointer (some ⟨w.heap.size + 1, 2, none⟩)
  | 1 => v = .int .u64 E.seq
  | 2 => v = .pointer (some ⟨w.heap.size, 1, none⟩)
  | 3 => v = .int .u64 V.seq
  | 4 => ∃ b, b ≠ w.heap.size ∧ v = .slice (some ⟨b, 0, none⟩) 2 2 ∧ W.heap[b]? = some (.cells #[.int .u64 E.seq, .int .u64 V.seq] 25 (0, 0))
  | 5 => v = .int .u64 (or2 E.seq V.seq)
  | 6 => v = .pointer (some ⟨w.heap.size + 1, 3, none⟩)
  | 7 => v = .int .i64 E.next
  | 8 => v = .pointer (some ⟨w.heap.size, 2, none⟩)
  | 9 => v = .int .i64 V.next
  | 10 => ∃ b, b ≠ w.heap.size ∧ v = .slice (some ⟨b, 0, none⟩) 2 2 ∧ W.heap[b]? = some (.cells #[.int .i64 E.next, .int .i64 V.next] 3 (0, 0))
  | 11 => v = .int .i64 (or2 E.next V.next)
  | 12 => v = .pointer (some ⟨w.heap.size + 1, 4, none⟩)
  | 13 => v = .int .i64 E.wal
  | 14 => v = .pointer (some ⟨w.heap.size, 3, none⟩)
  | 15 => v = .int .i64 V.wal
  | 16 => ∃ b, b ≠ w.heap.size ∧ v = .slice (some ⟨b, 0, none⟩) 2 2 ∧ W.heap[b]? = some (.cells #[.int .i64 E.wal, .int .i64 V.wal] 3 (0, 0))
  | 17 => v = .int .i64 (or2 E.wal V.wal)
  | 18 => v = .pointer (some ⟨w.heap.size, 1, none⟩)
  | 20 => v = .pointer (some ⟨w.heap.size, 2, none⟩)
  | 22 => v = .pointer (some ⟨w.heap.size, 3, none⟩)
  | _ => True

theorem S26.keep {w : World} {V : VerD} {E : EdD} : ∀ (j : Nat) (v : Value) (W W' : World), Rest w.heap.size W W' → S26 w V E j v W → S26 w V E j v W' := by
  intro j v W W' hR h
  unfold S26 at h
  split at h <;> first
    | exact h
    | (obtain ⟨b, hb, hv, hc⟩ := h; exact ⟨b, hb, hv, hR _ _ hb hc⟩)
    | (unfold S26; split <;> first | trivial | (exfalso; simp_all))
end Go.Proofs.YtpdbjmodgiokmaaDoor
