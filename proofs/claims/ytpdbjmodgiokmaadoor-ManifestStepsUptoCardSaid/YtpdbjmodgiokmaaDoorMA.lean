/- few; sameTables and SameVersion at versions that are alike. -/
import Derived.Test.YtpdbjmodgiokmaaDoorM9
namespace Go.Proofs.YtpdbjmodgiokmaaDoor
open Go.RowKit Go.Gl

theorem neq_tb (x : Tb) (w : World) : (binOp .neq 38 (.agg #[.int .i64 x.file, .int .i64 x.level, .string x.first, .string x.last, .int .i64 x.size]) (.agg #[.int .i64 x.file, .int .i64 x.level, .string x.first, .string x.last, .int .i64 x.size])).run Tryd.prog w = .ok (.bool false) w := by
  have u3 := Tryd.underlying3
  have a3 := Tryd.isAgg3
  have z3 := Tryd.sizeOf3
  have u9 := Tryd.underlying9
  have a9 := Tryd.isAgg9
  have z9 := Tryd.sizeOf9
  have hS : Tryd.prog.underlying 38 = some (.struct (Tryd.prog.fieldsOf 38)) := by kernel_rfl
  have hp : Tryd.prog.stoodInHeld 38 = false := by kernel_rfl
  rw [run_neq_struct, show (10000 : Nat) = 9999 + 1 from rfl, run_equalIn_struct w 9999 38 _ _ hS hp]
  simp only [Program.fieldsOf, Tryd.underlying38]
  go_simp
  try simp

theorem guard_tb (op : BinOp) (a b : Operand) (xs ys : Array Value) (w : World) : (eqGuard op 38 a b (.agg xs) (.agg ys)).run Tryd.prog w = .ok () w := run_eqGuard_agg w op 38 a b xs ys (by kernel_rfl)

def SameInv (w : World) (n : Nat) (iv : Value) (wr : World) : Prop := ∃ i : Nat, iv = .int .i64 i ∧ i ≤ n ∧ Grow w wr

/-- What can be read of a version's tables. -/
theorem own_read {B : Nat} {w : World} {v : Value} {l : List Tb} (h : Own B w v l) : ∃ a c, v = .slice a l.length c ∧ (0 < l.length → ∃ g, a = some ⟨g, 0, none⟩ ∧ g < w.heap.size ∧ ∀ (j : Nat) (t : Tb), l[j]? = some t → w.cell? ⟨g, j * 5, none⟩ = some (.int .i64 t.file) ∧ w.cell? ⟨g, j * 5 + 1, none⟩ = some (.int .i64 t.level) ∧ w.cell? ⟨g, j * 5 + 2, none⟩ = some (.string t.first) ∧ w.cell? ⟨g, j * 5 + 3, none⟩ = some (.string t.last) ∧ w.cell? ⟨g, j * 5 + 4, none⟩ = some (.int .i64 t.size)) := by
  rcases h.2 with ⟨rfl, h0⟩ | ⟨g, cap, cur, rfl, hB, hg, hr⟩
  · exact ⟨none, 0, by rw [h0], fun h1 => by omega⟩
  · exact ⟨_, cap, rfl, fun _ => ⟨g, rfl, lt_of_getElem? hg, fun j t ht => own_cells h rfl ht⟩⟩

set_option maxRecDepth 100000 in
set_option maxHeartbeats 4000000 in
theorem same_tables {B1 B2 : Nat} {w : World} {v1 v2 : Value} {l : List Tb} (h1 : Own B1 w v1 l) (h2 : Own B2 w v2 l) (hlen : l.length < 1000000000) :
    Calls Tryd.prog 13 #[v1, v2] w fun e w' => e = .returned (.bool true) ∧ Grow w w' := by
  obtain ⟨a1, c1, rfl, hr1⟩ := own_read h1
  obtain ⟨a2, c2, rfl, hr2⟩ := own_read h2
  have Hr1 := Lib.hid hr1
  have Hr2 := Lib.hid hr2
  have hcl := Grow.cells (w := w)
  have hne : ((l.length : Int) != (l.length : Int)) = false := by simp
  clear h1 h2 hr1 hr2
  go_enter Tryd.func13, Tryd.ntmps13
  go_wp2
  go_loopw [5] (fun iv wr => SameInv w l.length iv wr) (fun iv _ => l.length - (intOf iv).toNat)
  case atStart => exact ⟨0, rfl, Nat.zero_le _, Grow.refl _⟩
  case round =>
    obtain ⟨i, rfl, hi, hg⟩ := hrel
    by_cases hlt : i < l.length
    · obtain ⟨t, ht⟩ : ∃ t, l[i]? = some t := ⟨l[i], by simp [hlt]⟩
      obtain ⟨g1, rfl, hgl1, hc1⟩ := Hr1.out (by omega)
      obtain ⟨g2, rfl, hgl2, hc2⟩ := Hr2.out (by omega)
      obtain ⟨p0, p1, p2, p3, p4⟩ := hc1 i t ht
      obtain ⟨q0, q1, q2, q3, q4⟩ := hc2 i t ht
      have hi0 : (0 : Int) ≤ (i : Int) := by omega
      have hi1 : (i : Int) < (l.length : Int) := by omega
      have hwi : IntKind.i64.wrap ((i : Int) + 1) = (i : Int) + 1 := IntWalk.i64_in _ (by omega)
      have hq1 := neq_tb t
      have hq2 := guard_tb
      have Hg := Lib.hid hg
      obtain ⟨f0, f1, f2, f3, f4⟩ := t
      dsimp only at p0 p1 p2 p3 p4 q0 q1 q2 q3 q4 hq1
      clear hc1 hc2 ht hg
      go_wp2_with fail
      refine wp_region_pi (fun W => Below w.heap.size w W) [(0, false), (1, false), (2, false), (3, false), (4, false), (5, false), (6, false), (7, false), (8, false)] (by kernel_rfl) (by kernel_rfl) (fun c a d v w h => by cases d <;> exact h) (Hg.out.trans (Grow.drew _)) ?_
      simp only [arrange, nth]
      repeat (first | (refine wpPi_quiet (v := ?_) (by rfl) (fun W hW => ?_) ?_; rotate_left; (obtain hW := hW; go_simp; with_reducible rfl); simp only [Act.put, List.setIfInBounds_toArray, List.set_cons_zero, List.set_cons_succ]) | (refine wpPi_off (by rfl) ?_; simp only [Act.put, List.setIfInBounds_toArray, List.set_cons_zero, List.set_cons_succ]))
      refine wpPi_nil ?_
      go_wp2
      go_roundw
      case rel => exact ⟨i + 1, rfl, hlt, Hg.out.trans (Grow.drew _)⟩
      case measure => simp [intOf]; omega
    · obtain rfl : i = l.length := by omega
      go_wp2
      go_ret
      exact ⟨rfl, hg⟩

set_option maxHeartbeats 4000000 in
theorem same_version {B1 B2 : Nat} {w : World} {v1 v2 : Value} {V : VerD} (h1 : Own B1 w v1 V.tabs) (h2 : Own B2 w v2 V.tabs) (hlen : V.tabs.length < 1000000000) :
    Calls Tryd.prog 7 #[.agg (verCells v1 V.seq V.next V.wal), .agg (verCells v2 V.seq V.next V.wal)] w fun e w' => e = .returned (.bool true) ∧ Grow w w' := by
  have hg0 : Grow w ((w.alloc (.cells (verCells v1 V.seq V.next V.wal) 27)).alloc (.cells (verCells v2 V.seq V.next V.wal) 27)) := by (repeat (first | exact Below.refl _ _ | assumption | refine Below.drew ?_ | refine bDrewN ?_ | refine Below.setCell ?_ (by first | omega | (simp <;> omega)) _ | refine Below.alloc ?_ (by first | omega | (simp <;> omega)) _))
  have hb1 : ((w.alloc (.cells (verCells v1 V.seq V.next V.wal) 27)).alloc (.cells (verCells v2 V.seq V.next V.wal) 27)).heap[w.heap.size]? = some (.cells (verCells v1 V.seq V.next V.wal) 27 (0, 0)) := (heap_alloc_old _ _ (by simp)).trans (heap_alloc_new _ _)
  have hb2 : ((w.alloc (.cells (verCells v1 V.seq V.next V.wal) 27)).alloc (.cells (verCells v2 V.seq V.next V.wal) 27)).heap[w.heap.size + 1]? = some (.cells (verCells v2 V.seq V.next V.wal) 27 (0, 0)) := by
    have := heap_alloc_new (w.alloc (.cells (verCells v1 V.seq V.next V.wal) 27)) (.cells (verCells v2 V.seq V.next V.wal) 27)
    simpa using this
  have hst := same_tables (owns_grow h1 hg0) (owns_grow h2 hg0) hlen
  obtain ⟨a1, c1, rfl⟩ := own_slice h1
  obtain ⟨a2, c2, rfl⟩ := own_slice h2
  obtain ⟨p0, p1, p2, p3⟩ := cells4 hb1
  obtain ⟨q0, q1, q2, q3⟩ := cells4 hb2
  have Hb1 := Lib.hid hb1
  have Hb2 := Lib.hid hb2
  have l1 := lt_of_getElem? hb1
  have l2 := lt_of_getElem? hb2
  have Hst := Lib.hid hst
  have Hg0 := Lib.hid hg0
  have e1 : (V.seq == V.seq) = true := by simp
  have e2 : (V.next == V.next) = true := by simp
  have e3 : (V.wal == V.wal) = true := by simp
  clear h1 h2 hb1 hb2 hst hg0
  go_enter Tryd.func7, Tryd.ntmps7
  go_wp2_with fail
  generalize (w.alloc (.cells (verCells (.slice a1 V.tabs.length c1) V.seq V.next V.wal) 27)).alloc (.cells (verCells (.slice a2 V.tabs.length c2) V.seq V.next V.wal) 27) = W1 at *
  (with_reducible refine Hst.out.mono ?_)
  rintro e w2 ⟨rfl, hg2⟩
  clear p0 p1 p2 p3 q0 q1 q2 q3
  obtain ⟨p0, p1, p2, p3⟩ := cells4 (hg2.heap Hb1.out)
  obtain ⟨q0, q1, q2, q3⟩ := cells4 (hg2.heap Hb2.out)
  have l3 := lt_of_getElem? (hg2.heap Hb1.out)
  have l4 := lt_of_getElem? (hg2.heap Hb2.out)
  go_wp2
  go_ret
  exact ⟨rfl, Hg0.out.trans hg2⟩

def FewInv (w : World) (n : Nat) (nv iv : Value) (wr : World) : Prop := ∃ (z : Int) (i : Nat), nv = .int .i64 z ∧ iv = .int .i64 i ∧ i ≤ n ∧ Grow w wr

set_option maxRecDepth 100000 in
set_option maxHeartbeats 4000000 in
theorem few_any {w : World} {av dv : Value} {E : EdD} (hA : Tabs w av E.add) (hD : Ints w dv E.drop) (hal : E.add.length ≤ 9223372036854775807) :
    Calls Tryd.prog 5 #[.agg (edCells av dv E.seq E.next E.wal)] w fun e w' => ∃ r : Bool, e = .returned (.bool r) ∧ (r = true → E.add.length ≤ 20 ∧ E.drop.length ≤ 20) ∧ Grow w w' := by
  have hg0 : Grow w (w.alloc (.cells (edCells av dv E.seq E.next E.wal) 31)) := Grow.alloc _ _
  have hb : (w.alloc (.cells (edCells av dv E.seq E.next E.wal) 31)).heap[w.heap.size]? = some (.cells (edCells av dv E.seq E.next E.wal) 31 (0, 0)) := heap_alloc_new _ _
  obtain ⟨aa, ac, rfl, har⟩ := hA
  obtain ⟨da, dc, rfl, _, _⟩ := hD
  obtain ⟨c0, c1, c2, c3, c4⟩ := cells5 hb
  have l1 := lt_of_getElem? hb
  have Hg0 := Lib.hid hg0
  have Har := Lib.hid har
  clear hb hg0 har
  go_enter Tryd.func5, Tryd.ntmps5
  go_wp2_with fail
  generalize w.alloc (.cells (edCells (.slice aa E.add.length ac) (.slice da E.drop.length dc) E.seq E.next E.wal) 31) = W1 at *
  have hcl := Grow.cells (w := W1)
  go_loopw [3, 4] (fun nv iv wr => FewInv W1 E.add.length nv iv wr) (fun _ iv _ => E.add.length - (intOf iv).toNat)
  case atStart => exact ⟨0, 0, rfl, rfl, Nat.zero_le _, Grow.refl _⟩
  case round =>
    obtain ⟨z, i, rfl, rfl, hi, hg⟩ := hrel
    have d0 := hcl wr w.heap.size 0 hg l1
    rw [c0] at d0
    have d1 := hcl wr w.heap.size 1 hg l1
    rw [c1] at d1
    by_cases hlt : i < E.add.length
    · obtain ⟨t, ht⟩ : ∃ t, E.add[i]? = some t := ⟨E.add[i], by simp [hlt]⟩
      obtain ⟨b, o, rfl, hbl, hrd⟩ : ∃ b o, aa = some ⟨b, o, none⟩ ∧ b < w.heap.size ∧ Rd w b o encTb 5 E.add := by
        rcases Har.out with h1 | h1
        · rw [h1] at hlt; simp at hlt
        · exact h1
      have hr := hrd.grow hbl Hg0.out i t ht
      have a2 := hr 2 _ rfl
      have a3 := hr 3 _ rfl
      have lb : b < W1.heap.size := Nat.lt_of_lt_of_le hbl Hg0.out.size
      obtain ⟨f0, f1, f2, f3, f4⟩ := t
      dsimp only at a2 a3
      have hi0 : (0 : Int) ≤ (i : Int) := by omega
      have hi1 : (i : Int) < (E.add.length : Int) := by omega
      have Hg := Lib.hid hg
      clear hr hrd ht hg
      go_wp2_with fail
      refine wp_region_pi (fun W => Below W1.heap.size W1 W) [(0, false), (1, false), (2, false), (3, false), (4, false), (5, false), (6, false), (7, false), (8, false), (9, false), (10, false), (11, false), (12, false), (13, false), (14, false), (15, false), (16, false), (17, false)] (by kernel_rfl) (by kernel_rfl) (fun c a d v w h => by cases d <;> exact h) (Hg.out.trans (Grow.drew _)) ?_
      simp only [arrange, nth]
      repeat (first | (refine wpPi_quiet (v := ?_) (by rfl) (fun W hW => ?_) ?_; rotate_left; (obtain hW := hW; go_simp; with_reducible rfl); simp only [Act.put, List.setIfInBounds_toArray, List.set_cons_zero, List.set_cons_succ]) | (refine wpPi_off (by rfl) ?_; simp only [Act.put, List.setIfInBounds_toArray, List.set_cons_zero, List.set_cons_succ]))
      refine wpPi_nil ?_
      go_wp2
      go_roundw
      case rel => exact ⟨_, i + 1, rfl, rfl, hlt, Hg.out.trans (Grow.drew _)⟩
      case measure => simp [intOf]; omega
    · obtain rfl : i = E.add.length := by omega
      have lw : w.heap.size < wr.heap.size := Nat.lt_of_lt_of_le l1 hg.size
      by_cases h1 : E.add.length ≤ 20
      · have h1' : decide ((E.add.length : Int) ≤ 20) = true := by simp; omega
        by_cases h2 : E.drop.length ≤ 20
        · have h2' : decide ((E.drop.length : Int) ≤ 20) = true := by simp; omega
          go_wp2
          go_ret
          exact ⟨decide (z ≤ 10000), rfl, fun _ => ⟨h1, h2⟩, Hg0.out.trans hg⟩
        · have h2' : decide ((E.drop.length : Int) ≤ 20) = false := by simp; omega
          go_wp2
          go_ret
          exact ⟨false, rfl, (fun h => by cases h), Hg0.out.trans hg⟩
      · have h1' : decide ((E.add.length : Int) ≤ 20) = false := by simp; omega
        go_wp2
        go_ret
        exact ⟨false, rfl, (fun h => by cases h), Hg0.out.trans hg⟩
end Go.Proofs.YtpdbjmodgiokmaaDoor
