/- Merged out of YJ: helpers. -/
import Derived.Test.YtdegmpimcappjaaGreatDoorFD
/- The document's check of an operation, kind by kind. -/
namespace Go.Proofs.YtdegmpimcappjaaGreatDoor
open Go.RowKit Go.Gl Go.Front

theorem ck_cell1 {W : World} {b : Nat} {a : Array Value} {t : TypeId} (h : W.heap[b]? = some (.cells a t)) {j : Nat} {v : Value} (hj : a[j]? = some v) : W.cell? ⟨b, j, none⟩ = some v := by
  unfold World.cell?
  rw [h]
  exact hj

theorem rightD_1 (o : OpD) (h : o.kind = 1) : right o = (nameB o.bucket && decide (o.key = []) && decide (o.after = []) && decide (o.n = 0) && decide (o.upload = 0) && decide (o.parts = []) && decide (o.data = [])) := by unfold right; rw [h]; rfl
theorem rightD_2 (o : OpD) (h : o.kind = 2) : right o = (nameB o.bucket && decide (o.key = []) && decide (o.after = []) && decide (o.n = 0) && decide (o.upload = 0) && decide (o.parts = []) && decide (o.data = [])) := by unfold right; rw [h]; rfl
theorem rightD_3 (o : OpD) (h : o.kind = 3) : right o = (nameB o.bucket && keyB o.key && decide (o.after = []) && decide (o.n = 0) && decide (o.upload = 0) && decide (o.parts = []) && decide (o.data.length ≤ 16777216)) := by unfold right; rw [h]; rfl
theorem rightD_4 (o : OpD) (h : o.kind = 4) : right o = (nameB o.bucket && keyB o.key && decide (o.after = []) && decide (o.n = 0) && decide (o.upload = 0) && decide (o.parts = []) && decide (o.data = [])) := by unfold right; rw [h]; rfl
theorem rightD_5 (o : OpD) (h : o.kind = 5) : right o = (nameB o.bucket && keyB o.key && decide (o.after = []) && decide (o.n = 0) && decide (o.upload = 0) && decide (o.parts = []) && decide (o.data = [])) := by unfold right; rw [h]; rfl
theorem rightD_6 (o : OpD) (h : o.kind = 6) : right o = (nameB o.bucket && decide (o.key.length ≤ 1024) && decide (o.after.length ≤ 1024) && decide (1 ≤ o.n) && decide (o.n ≤ 1000) && decide (o.upload = 0) && decide (o.parts = []) && decide (o.data = [])) := by unfold right; rw [h]; rfl
theorem rightD_7 (o : OpD) (h : o.kind = 7) : right o = (nameB o.bucket && keyB o.key && decide (o.after = []) && decide (o.n = 0) && decide (o.upload = 0) && decide (o.parts = []) && decide (o.data = [])) := by unfold right; rw [h]; rfl
theorem rightD_8 (o : OpD) (h : o.kind = 8) : right o = (decide (o.bucket = []) && decide (o.key = []) && decide (o.after = []) && decide (1 ≤ o.n) && decide (o.n ≤ 10000) && decide (o.parts = []) && decide (o.data.length ≤ 16777216)) := by unfold right; rw [h]; rfl
theorem rightD_9 (o : OpD) (h : o.kind = 9) : right o = (decide (o.bucket = []) && decide (o.key = []) && decide (o.after = []) && decide (o.n = 0) && partsB o.parts && decide (o.data = [])) := by unfold right; rw [h]; rfl
theorem rightD_10 (o : OpD) (h : o.kind = 10) : right o = (decide (o.bucket = []) && decide (o.key = []) && decide (o.after = []) && decide (o.n = 0) && decide (o.parts = []) && decide (o.data = [])) := by unfold right; rw [h]; rfl

end Go.Proofs.YtdegmpimcappjaaGreatDoor
