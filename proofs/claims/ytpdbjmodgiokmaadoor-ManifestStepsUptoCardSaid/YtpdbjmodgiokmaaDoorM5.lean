/- manifest.shared, manifest.apart. -/
import Derived.Test.YtpdbjmodgiokmaaDoorM4
namespace Go.Proofs.YtpdbjmodgiokmaaDoor
open Go.RowKit Go.Gl

/-- Do two tables that lie side by side share a key? -/
def badPair (a b : Tb) : Bool := decide (0 < b.level) && ((b.level == a.level) && (Op.bytesLess b.first.toList a.last.toList || b.first.toList == a.last.toList))
def sharedD : List Tb → Bool
  | a :: b :: r => badPair a b || sharedD (b :: r)
  | _ => false

theorem sharedD_step {l : List Tb} {k : Nat} {a b : Tb} (ha : l[k]? = some a) (hb : l[k + 1]? = some b) : sharedD (l.drop k) = (badPair a b || sharedD (l.drop (k + 1))) := by
  obtain ⟨h1, rfl⟩ := List.getElem?_eq_some_iff.1 ha
  obtain ⟨h2, rfl⟩ := List.getElem?_eq_some_iff.1 hb
  rw [List.drop_eq_getElem_cons h1, List.drop_eq_getElem_cons h2]
  rfl

def SharedInv (w : World) (l : List Tb) (iv : Value) (wr : World) : Prop :=
  ∃ i k : Nat, iv = .int .i64 i ∧ i = k + 1 ∧ (i ≤ l.length ∨ i = 1) ∧ sharedD l = sharedD (l.drop k) ∧ Grow w wr

set_option maxRecDepth 100000 in
set_option maxHeartbeats 4000000 in
theorem shared_any {B : Nat} {w : World} {v : Value} {l : List Tb} (h : Own B w v l) (hlen : l.length < 1000000000) :
    Calls Tryd.prog 24 #[v] w fun e w' => e = .returned (.bool (sharedD l)) ∧ Grow w w' := by
  obtain ⟨va, vc, rfl, hrd⟩ : ∃ a c, v = .slice a l.length c ∧ (0 < l.length → ∃ g, a = some ⟨g, 0, none⟩ ∧ g < w.heap.size ∧ ∀ (j : Nat) (t : Tb), l[j]? = some t → w.cell? ⟨g, j * 5, none⟩ = some (.int .i64 t.file) ∧ w.cell? ⟨g, j * 5 + 1, none⟩ = some (.int .i64 t.level) ∧ w.cell? ⟨g, j * 5 + 2, none⟩ = some (.string t.first) ∧ w.cell? ⟨g, j * 5 + 3, none⟩ = some (.string t.last) ∧ w.cell? ⟨g, j * 5 + 4, none⟩ = some (.int .i64 t.size)) := by
    rcases h.2 with ⟨rfl, h0⟩ | ⟨g, cap, cur, rfl, hB, hg, hr⟩
    · exact ⟨none, 0, by rw [h0], fun h1 => by omega⟩
    · exact ⟨_, cap, rfl, fun _ => ⟨g, rfl, lt_of_getElem? hg, fun j t ht => own_cells h rfl ht⟩⟩
  have Hrd := Lib.hid hrd
  have hcl := Grow.cells (w := w)
  clear h hrd
  go_enter Tryd.func24, Tryd.ntmps24
  go_wp2
  go_loopw [3] (fun iv wr => SharedInv w l iv wr) (fun iv _ => l.length - (intOf iv).toNat)
  case atStart => exact ⟨1, 0, rfl, rfl, .inr rfl, rfl, Grow.refl _⟩
  case round =>
    obtain ⟨i, k, rfl, hik, hi, hsh, hg⟩ := hrel
    by_cases hlt : i < l.length
    · obtain ⟨b, hb⟩ : ∃ b, l[i]? = some b := ⟨l[i], by simp [hlt]⟩
      obtain ⟨a, ha⟩ : ∃ a, l[k]? = some a := ⟨l[k], by simp [show k < l.length by omega]⟩
      obtain ⟨g, rfl, hgl, hc⟩ := Hrd.out (by omega)
      obtain ⟨p0, p1, p2, p3, p4⟩ := hc i b hb
      obtain ⟨q0, q1, q2, q3, q4⟩ := hc k a ha
      have hstep := sharedD_step ha (by rw [← hik]; exact hb)
      have hi0 : (0 : Int) ≤ (i : Int) := by omega
      have hi1 : (i : Int) < (l.length : Int) := by omega
      have hk0 : (0 : Int) ≤ (k : Int) := by omega
      have hk1 : (k : Int) < (l.length : Int) := by omega
      have hw : IntKind.i64.wrap ((i : Int) - 1) = (k : Int) := by rw [IntWalk.i64_in _ (by omega)]; omega
      have hwi : IntKind.i64.wrap ((i : Int) + 1) = (i : Int) + 1 := IntWalk.i64_in _ (by omega)
      have Hstep := Lib.hid hstep
      have Hsh := Lib.hid hsh
      have Hik := Lib.hid hik
      have Hg := Lib.hid hg
      obtain ⟨b0, b1, b2, b3, b4⟩ := b
      obtain ⟨a0, a1, a2, a3, a4⟩ := a
      dsimp only at p0 p1 p2 p3 p4 q0 q1 q2 q3 q4
      clear hc ha hb hstep hsh hik hi
      by_cases h1 : 0 < b1
      · have h1' : decide (0 < b1) = true := by simp [h1]
        by_cases h2 : b1 = a1
        · have h2' : (b1 == a1) = true := by simp [h2]
          cases h3 : (Op.bytesLess b2.toList a3.toList || b2.toList == a3.toList) with
          | true =>
            have Hfin : Hid (sharedD l = true) := Lib.hid (by rw [Hsh.out, Hstep.out]; simp only [badPair, h1', h2', h3]; rfl)
            clear h1 h2
            go_wp2_with fail
            refine wp_region_pi (fun W => Below w.heap.size w W) [(0, false), (1, false), (2, false), (3, false), (4, false), (5, false), (6, false), (7, false), (8, false), (9, false), (10, false), (11, false), (12, false), (13, false), (14, false), (15, false), (16, false), (17, false), (18, false), (19, false), (20, false), (21, false), (22, false), (23, false), (24, false), (25, false), (26, false), (27, false), (28, false), (29, false), (30, false), (31, false), (32, false), (33, false)] (by kernel_rfl) (by kernel_rfl) (fun c a d v w h => by cases d <;> exact h) (Hg.out.trans (Grow.drew _)) ?_
            simp only [arrange, nth]
            repeat (first | (refine wpPi_quiet (v := ?_) (by rfl) (fun W hW => ?_) ?_; rotate_left; (obtain hW := hW; go_simp; with_reducible rfl); simp only [Act.put, List.setIfInBounds_toArray, List.set_cons_zero, List.set_cons_succ]) | (refine wpPi_off (by rfl) ?_; simp only [Act.put, List.setIfInBounds_toArray, List.set_cons_zero, List.set_cons_succ]))
            refine wpPi_nil ?_
            go_wp2
            go_ret
            exact ⟨by rw [Hfin.out]; rfl, Hg.out.trans (Grow.drew _)⟩
          | false =>
            have Hfin : Hid (sharedD l = sharedD (l.drop (k + 1))) := Lib.hid (by rw [Hsh.out, Hstep.out]; simp only [badPair, h1', h2', h3]; rfl)
            clear h1 h2
            go_wp2_with fail
            refine wp_region_pi (fun W => Below w.heap.size w W) [(0, false), (1, false), (2, false), (3, false), (4, false), (5, false), (6, false), (7, false), (8, false), (9, false), (10, false), (11, false), (12, false), (13, false), (14, false), (15, false), (16, false), (17, false), (18, false), (19, false), (20, false), (21, false), (22, false), (23, false), (24, false), (25, false), (26, false), (27, false), (28, false), (29, false), (30, false), (31, false), (32, false), (33, false)] (by kernel_rfl) (by kernel_rfl) (fun c a d v w h => by cases d <;> exact h) (Hg.out.trans (Grow.drew _)) ?_
            simp only [arrange, nth]
            repeat (first | (refine wpPi_quiet (v := ?_) (by rfl) (fun W hW => ?_) ?_; rotate_left; (obtain hW := hW; go_simp; with_reducible rfl); simp only [Act.put, List.setIfInBounds_toArray, List.set_cons_zero, List.set_cons_succ]) | (refine wpPi_off (by rfl) ?_; simp only [Act.put, List.setIfInBounds_toArray, List.set_cons_zero, List.set_cons_succ]))
            refine wpPi_nil ?_
            go_wp2
            go_roundw
            case rel => exact ⟨i + 1, k + 1, rfl, by rw [Hik.out], .inl hlt, Hfin.out, Hg.out.trans (Grow.drew _)⟩
            case measure => simp [intOf]; omega
        · have h2' : (b1 == a1) = false := by simpa using h2
          have Hfin : Hid (sharedD l = sharedD (l.drop (k + 1))) := Lib.hid (by rw [Hsh.out, Hstep.out]; simp only [badPair, h1', h2']; rfl)
          clear h1 h2
          go_wp2_with fail
          refine wp_region_pi (fun W => Below w.heap.size w W) [(0, false), (1, false), (2, false), (3, false), (4, false), (5, false), (6, false), (7, false), (8, false), (9, false), (10, false), (11, false), (12, false), (13, false), (14, false), (15, false), (16, false), (17, false), (18, false), (19, false), (20, false), (21, false), (22, false), (23, false), (24, false), (25, false), (26, false), (27, false), (28, false), (29, false), (30, false), (31, false), (32, false), (33, false)] (by kernel_rfl) (by kernel_rfl) (fun c a d v w h => by cases d <;> exact h) (Hg.out.trans (Grow.drew _)) ?_
          simp only [arrange, nth]
          repeat (first | (refine wpPi_quiet (v := ?_) (by rfl) (fun W hW => ?_) ?_; rotate_left; (obtain hW := hW; go_simp; with_reducible rfl); simp only [Act.put, List.setIfInBounds_toArray, List.set_cons_zero, List.set_cons_succ]) | (refine wpPi_off (by rfl) ?_; simp only [Act.put, List.setIfInBounds_toArray, List.set_cons_zero, List.set_cons_succ]))
          refine wpPi_nil ?_
          go_wp2
          go_roundw
          case rel => exact ⟨i + 1, k + 1, rfl, by rw [Hik.out], .inl hlt, Hfin.out, Hg.out.trans (Grow.drew _)⟩
          case measure => simp [intOf]; omega
      · have h1' : decide (0 < b1) = false := by simpa using h1
        have Hfin : Hid (sharedD l = sharedD (l.drop (k + 1))) := Lib.hid (by rw [Hsh.out, Hstep.out]; simp only [badPair, h1']; rfl)
        clear h1
        go_wp2_with fail
        refine wp_region_pi (fun W => Below w.heap.size w W) [(0, false), (1, false), (2, false), (3, false), (4, false), (5, false), (6, false), (7, false), (8, false), (9, false), (10, false), (11, false), (12, false), (13, false), (14, false), (15, false), (16, false), (17, false), (18, false), (19, false), (20, false), (21, false), (22, false), (23, false), (24, false), (25, false), (26, false), (27, false), (28, false), (29, false), (30, false), (31, false), (32, false), (33, false)] (by kernel_rfl) (by kernel_rfl) (fun c a d v w h => by cases d <;> exact h) (Hg.out.trans (Grow.drew _)) ?_
        simp only [arrange, nth]
        repeat (first | (refine wpPi_quiet (v := ?_) (by rfl) (fun W hW => ?_) ?_; rotate_left; (obtain hW := hW; go_simp; with_reducible rfl); simp only [Act.put, List.setIfInBounds_toArray, List.set_cons_zero, List.set_cons_succ]) | (refine wpPi_off (by rfl) ?_; simp only [Act.put, List.setIfInBounds_toArray, List.set_cons_zero, List.set_cons_succ]))
        refine wpPi_nil ?_
        go_wp2
        go_roundw
        case rel => exact ⟨i + 1, k + 1, rfl, by rw [Hik.out], .inl hlt, Hfin.out, Hg.out.trans (Grow.drew _)⟩
        case measure => simp [intOf]; omega
    · have Hfin : Hid (sharedD l = false) := Lib.hid (by
        rw [hsh]
        have : (l.drop k).length ≤ 1 := by rw [List.length_drop]; omega
        cases hd : l.drop k with
        | nil => rfl
        | cons a r =>
          rw [hd] at this
          cases r with
          | nil => rfl
          | cons b r => simp at this)
      have hle : (l.length : Int) ≤ (i : Int) := by omega
      clear hsh hik hi
      go_wp2
      go_ret
      exact ⟨by rw [Hfin.out]; rfl, hg⟩

theorem own_other {B : Nat} {w : World} {v : Value} {n : Nat} {xs : List Value} (h : w.ownsRow B 38 5 v n xs) {b i : Nat} {arr : Array Value} {t : TypeId} {f : Nat × Nat} (hb : w.heap[b]? = some (.cells arr t f)) (ht : t ≠ 38) {x : Value} : (w.setCell ⟨b, i, none⟩ x).ownsRow B 38 5 v n xs := by
  refine ⟨h.1, ?_⟩
  rcases h.2 with h1 | ⟨g, cap, cur, h1, h2, h3, h4⟩
  · exact .inl h1
  · refine .inr ⟨g, cap, cur, h1, h2, ?_, h4⟩
    rw [Below.heap_setCell _ _ _ _ (fun e => ?_)]
    · exact h3
    · rw [e] at h3
      dsimp only at h3
      rw [hb] at h3; cases h3; exact ht rfl

/-- A version's four cells. -/
abbrev verCells (v : Value) (s n wl : Int) : Array Value := #[v, .int .u64 s, .int .i64 n, .int .i64 wl]

theorem cells4 {w : World} {b : Nat} {x0 x1 x2 x3 : Value} {t : TypeId} (h : w.heap[b]? = some (.cells #[x0, x1, x2, x3] t (0, 0))) :
    w.cell? ⟨b, 0, none⟩ = some x0 ∧ w.cell? ⟨b, 1, none⟩ = some x1 ∧ w.cell? ⟨b, 2, none⟩ = some x2 ∧ w.cell? ⟨b, 3, none⟩ = some x3 := by
  simp [World.cell?, h]

theorem own_slice {B : Nat} {w : World} {v : Value} {l : List Tb} (h : Own B w v l) : ∃ a c, v = .slice a l.length c := by
  rcases h.2 with ⟨rfl, h0⟩ | ⟨g, cap, cur, rfl, _⟩
  · exact ⟨none, 0, by rw [h0]⟩
  · exact ⟨_, _, rfl⟩

set_option maxHeartbeats 2000000 in
theorem apart_any {B : Nat} {w : World} {v : Value} {l : List Tb} (h : Own B w v l) (hlen : l.length < 1000000000) (s n wl : Int) :
    Calls Tryd.prog 11 #[.agg (verCells v s n wl)] w fun e w' => ∃ v', e = .returned (.agg (verCells v' s n wl)) ∧ Own w.heap.size w' v' l ∧ Grow w w' := by
  have hga : Grow w ((w.alloc (.cells (verCells v s n wl) 27)).alloc (.cells (verCells (.slice none 0 0) 0 0 0) 27)) := by (repeat (first | exact Below.refl _ _ | assumption | refine Below.drew ?_ | refine bDrewN ?_ | refine Below.setCell ?_ (by first | omega | (simp <;> omega)) _ | refine Below.alloc ?_ (by first | omega | (simp <;> omega)) _))
  have hcon := clone_any (owns_grow h hga) hlen
  have hb1 : ((w.alloc (.cells (verCells v s n wl) 27)).alloc (.cells (verCells (.slice none 0 0) 0 0 0) 27)).heap[w.heap.size]? = some (.cells (verCells v s n wl) 27 (0, 0)) := (heap_alloc_old _ _ (by simp)).trans (heap_alloc_new _ _)
  have hb2 : ((w.alloc (.cells (verCells v s n wl) 27)).alloc (.cells (verCells (.slice none 0 0) 0 0 0) 27)).heap[w.heap.size + 1]? = some (.cells (verCells (.slice none 0 0) 0 0 0) 27 (0, 0)) := by
    have := heap_alloc_new (w.alloc (.cells (verCells v s n wl) 27)) (.cells (verCells (.slice none 0 0) 0 0 0) 27)
    simpa using this
  obtain ⟨va, vc, rfl⟩ := own_slice h
  obtain ⟨c0, c1, c2, c3⟩ := cells4 hb1
  have l1 := lt_of_getElem? hb1
  have l2 := lt_of_getElem? hb2
  have Hcon := Lib.hid hcon
  have Hb1 := Lib.hid hb1
  have Hb2 := Lib.hid hb2
  have Hga := Lib.hid hga
  clear hcon hb1 hb2 hga h
  go_enter Tryd.func11, Tryd.ntmps11
  go_wp2_with fail
  generalize (w.alloc (.cells (verCells (.slice va l.length vc) s n wl) 27)).alloc (.cells (verCells (.slice none 0 0) 0 0 0) 27) = W1 at *
  (with_reducible refine Hcon.out.mono ?_)
  rintro e w2 ⟨v', rfl, ho2, hg2⟩
  obtain ⟨va', vc', rfl⟩ := own_slice ho2
  have hb12 := hg2.heap Hb1.out
  have hb22 := hg2.heap Hb2.out
  clear c0 c1 c2 c3
  obtain ⟨c0, c1, c2, c3⟩ := cells4 hb12
  obtain ⟨d0, d1, d2, d3⟩ := cells4 hb22
  have f0 : ∀ i, w2.frozen? ⟨w.heap.size, i, none⟩ = false := fun i => by simp [World.frozen?, hb12]
  have f1 : ∀ i, w2.frozen? ⟨w.heap.size + 1, i, none⟩ = false := fun i => by simp [World.frozen?, hb22]
  have l3 := lt_of_getElem? hb12
  have l4 := lt_of_getElem? hb22
  have Ho2 := Lib.hid ho2
  have Hg2 := Lib.hid hg2
  clear hb12 hb22 ho2 hg2
  go_wp2
  refine bodyPost_ret (v := .agg (verCells (.slice va' l.length vc') s n wl)) (by simp [results, Tryd.results11, go_sem, *]) rfl ⟨_, rfl, ?_, ?_⟩
  · have k1 := Hg2.out.heap Hb1.out
    have k2 := Hg2.out.heap Hb2.out
    have hne : w.heap.size + 1 ≠ w.heap.size := by omega
    have k3 : ∀ x, (w2.setCell ⟨w.heap.size, 0, none⟩ x).heap[w.heap.size + 1]? = _ := fun x => (Below.heap_setCell _ _ _ _ hne).trans k2
    refine own_other (own_other (own_other (own_other (own_other (owns_mono Ho2.out Hga.out.size) k1 (by decide)) (k3 _) (by decide)) (setCell_heap (k3 _) _ _) (by decide)) (setCell_heap (setCell_heap (k3 _) _ _) _ _) (by decide)) (setCell_heap (setCell_heap (setCell_heap (k3 _) _ _) _ _) _ _) (by decide)
  · have hgw : Below w.heap.size w w2 := Hga.out.trans Hg2.out
    (repeat (first | exact Below.refl _ _ | assumption | refine Below.drew ?_ | refine bDrewN ?_ | refine Below.setCell ?_ (by first | omega | (simp <;> omega)) _ | refine Below.alloc ?_ (by first | omega | (simp <;> omega)) _))
end Go.Proofs.YtpdbjmodgiokmaaDoor
