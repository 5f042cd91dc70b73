/- The document's net: a message is laid in, if there is room: the walk. -/
import Derived.Test.YtbanfilgokideaaR3
import Derived.Test.YtbanfilgokideaaGm
namespace Go.Proofs.Ytbanfilgokideaa
open Go.RowKit Go.Gl

/-- Is there room? -/
def okR (nodes bound : Int) (L : List RM) (f t : Int) : Prop := 0 ≤ f ∧ f < nodes ∧ 0 ≤ t ∧ t < nodes ∧ ((ofL (f, t) L).length : Int) < bound

def RLaid (B : Nat) (w : World) (q : Nat) (nodes bound time : Int) (L : List RM) (f t : Int) (l : List UInt8) (e : Ending) (w' : World) : Prop :=
  (¬ okR nodes bound L f t ∧ e = .returned (.bool false) ∧ Grow w w') ∨
  (okR nodes bound L f t ∧ e = .returned (.bool true) ∧ Keep softR B w w' ∧ ∃ v' mv, RefAt B w' q nodes bound time v' (L ++ [⟨f, t, mv, l⟩]))

theorem execOp_buildSliceM {w : World} {o : Oper} {a : Act} {x : Operand} {f t : Int} {ba : Option Addr} {n c : Nat} (hop : o.op = Op.buildSlice 59 1 #[(0, x)]) (hx : a.eval x = .agg #[.int .i64 f, .int .i64 t, .slice ba n c]) :
    (execOp a.eval o).run Try.prog w = .ok (.value (.slice (some ⟨w.heap.size, 0, none⟩) 1 1)) (w.alloc (.cells #[.int .i64 f, .int .i64 t, .slice ba n c] 31)) := by
  unfold execOp
  simp [hop, hx, run_buildSliceM]

set_option maxRecDepth 100000 in
set_option maxHeartbeats 4000000 in
theorem lay_any {B : Nat} {w : World} {q : Nat} {nodes bound time : Int} {v : Value} {L : List RM} (h : RefAt B w q nodes bound time v L) (hmax : L.length < 1000000000) (f t : Int) (ba : Option Addr) (bl bc : Nat) (l : List UInt8) (hb : BytesA w (.slice ba bl bc) l) (hl : l.length ≤ 140737488355328) :
    Calls Try.prog 33 #[.pointer (some ⟨q, 0, none⟩), .agg #[.int .i64 f, .int .i64 t, .slice ba bl bc]] w (RLaid B w q nodes bound time L f t l) := by
  have H := Lib.hid h
  have Hb := Lib.hid hb
  clear h hb
  go_enter Try.func33, Try.ntmps33
  go_wp2_with fail
  have Hg1 := Lib.hid (Grow.alloc w (.cells #[.int .i64 f, .int .i64 t, .slice ba bl bc] 31))
  have hbox : (w.alloc (.cells #[.int .i64 f, .int .i64 t, .slice ba bl bc] 31)).heap[w.heap.size]? = some (.cells #[.int .i64 f, .int .i64 t, .slice ba bl bc] 31 (0, 0)) := heap_alloc_new w _
  have hs1 : (w.alloc (.cells #[.int .i64 f, .int .i64 t, .slice ba bl bc] 31)).heap.size = w.heap.size + 1 := by simp
  generalize w.alloc (.cells #[.int .i64 f, .int .i64 t, .slice ba bl bc] 31) = w1 at *
  have HR := Lib.hid (H.out.grow Hg1.out)
  have Hbox := Lib.hid hbox
  have hblt : w.heap.size < w1.heap.size := by omega
  have hqlt : q < w1.heap.size := lt_of_getElem? HR.out.self
  have Hlt := Lib.hid (show w.heap.size < w1.heap.size by omega)
  have b0 : w1.cell? ⟨w.heap.size, 0, none⟩ = some (.int .i64 f) := by simp [World.cell?, hbox]
  have b1 : w1.cell? ⟨w.heap.size, 1, none⟩ = some (.int .i64 t) := by simp [World.cell?, hbox]
  have b2 : w1.cell? ⟨w.heap.size, 2, none⟩ = some (.slice ba bl bc) := by simp [World.cell?, hbox]
  obtain ⟨k0, k1, k2, k3⟩ := HR.out.cells
  have hcl := Grow.cells (w := w1)
  clear hbox hs1
  have Hnbw : Hid (∃ nb, w.heap.size = nb) := Lib.hid ⟨_, rfl⟩
  clear Hnbw
  generalize hnbw : w.heap.size = nb at *
  have Hnbw := Lib.hid hnbw
  clear hnbw
  by_cases c1 : f < 0
  · have d1 : decide (f < 0) = true := by simp [c1]
    have Hno : Hid (¬ okR nodes bound L f t) := Lib.hid (by rintro ⟨_, _⟩; omega)
    refine wp_region_pi (fun W => Below w1.heap.size w1 W) [(0, false), (1, false), (2, false), (3, false), (4, false), (5, false), (6, false), (7, false), (8, false), (9, false), (10, false), (11, false), (12, false), (13, false), (14, false), (15, false), (16, false), (17, false), (18, false), (19, false), (20, false), (21, false), (22, false), (23, false), (24, false), (25, false), (26, false), (27, false), (28, false), (29, false), (30, false), (31, false), (33, false), (34, false), (35, false), (36, false), (32, true), (37, false), (38, false)] (by kernel_rfl) (by kernel_rfl) (fun c a d v w h => by cases d <;> exact h) (by (repeat (first | exact Below.refl _ _ | assumption | refine Below.drew ?_ | refine bDrewN ?_ | refine Below.setCell ?_ (by first | omega | (simp <;> omega)) _ | refine Below.alloc ?_ (by first | omega | (simp <;> omega)) _))) ?_
    simp only [arrange, nth]
    repeat (first | (refine wpPi_quiet (v := ?_) (by rfl) (fun W hW => ?_) ?_; rotate_left; (obtain hW := hW; go_simp; with_reducible rfl); simp only [Act.put, List.setIfInBounds_toArray, List.set_cons_zero, List.set_cons_succ]) | (refine wpPi_off (by rfl) ?_; simp only [Act.put, List.setIfInBounds_toArray, List.set_cons_zero, List.set_cons_succ]))
    refine wpPi_act_off (by rfl) (by (repeat (first | exact Below.refl _ _ | assumption | refine Below.drew ?_ | refine bDrewN ?_ | refine Below.setCell ?_ (by first | omega | (simp <;> omega)) _ | refine Below.alloc ?_ (by first | omega | (simp <;> omega)) _))) ?_
    try simp only [Act.put, List.setIfInBounds_toArray, List.set_cons_zero, List.set_cons_succ]
    repeat (first | (refine wpPi_quiet (v := ?_) (by rfl) (fun W hW => ?_) ?_; rotate_left; (obtain hW := hW; go_simp; with_reducible rfl); simp only [Act.put, List.setIfInBounds_toArray, List.set_cons_zero, List.set_cons_succ]) | (refine wpPi_off (by rfl) ?_; simp only [Act.put, List.setIfInBounds_toArray, List.set_cons_zero, List.set_cons_succ]))
    refine wpPi_nil ?_
    go_wp2
    go_ret
    exact .inl ⟨Hno.out, rfl, Hg1.out.trans (by (repeat (first | exact Below.refl _ _ | assumption | refine Below.drew ?_ | refine bDrewN ?_ | refine Below.setCell ?_ (by first | omega | (simp <;> omega)) _ | refine Below.alloc ?_ (by first | omega | (simp <;> omega)) _)))⟩
  have d1 : decide (f < 0) = false := by simp [c1]
  by_cases c2 : nodes ≤ f
  · have d2 : decide (nodes ≤ f) = true := by simp [c2]
    have Hno : Hid (¬ okR nodes bound L f t) := Lib.hid (by rintro ⟨_, _, _⟩; omega)
    refine wp_region_pi (fun W => Below w1.heap.size w1 W) [(0, false), (1, false), (2, false), (3, false), (4, false), (5, false), (6, false), (7, false), (8, false), (9, false), (10, false), (11, false), (12, false), (13, false), (14, false), (15, false), (16, false), (17, false), (18, false), (19, false), (20, false), (21, false), (22, false), (23, false), (24, false), (25, false), (26, false), (27, false), (28, false), (29, false), (30, false), (31, false), (33, false), (34, false), (35, false), (36, false), (32, true), (37, false), (38, false)] (by kernel_rfl) (by kernel_rfl) (fun c a d v w h => by cases d <;> exact h) (by (repeat (first | exact Below.refl _ _ | assumption | refine Below.drew ?_ | refine bDrewN ?_ | refine Below.setCell ?_ (by first | omega | (simp <;> omega)) _ | refine Below.alloc ?_ (by first | omega | (simp <;> omega)) _))) ?_
    simp only [arrange, nth]
    repeat (first | (refine wpPi_quiet (v := ?_) (by rfl) (fun W hW => ?_) ?_; rotate_left; (obtain hW := hW; go_simp; with_reducible rfl); simp only [Act.put, List.setIfInBounds_toArray, List.set_cons_zero, List.set_cons_succ]) | (refine wpPi_off (by rfl) ?_; simp only [Act.put, List.setIfInBounds_toArray, List.set_cons_zero, List.set_cons_succ]))
    refine wpPi_act_off (by rfl) (by (repeat (first | exact Below.refl _ _ | assumption | refine Below.drew ?_ | refine bDrewN ?_ | refine Below.setCell ?_ (by first | omega | (simp <;> omega)) _ | refine Below.alloc ?_ (by first | omega | (simp <;> omega)) _))) ?_
    try simp only [Act.put, List.setIfInBounds_toArray, List.set_cons_zero, List.set_cons_succ]
    repeat (first | (refine wpPi_quiet (v := ?_) (by rfl) (fun W hW => ?_) ?_; rotate_left; (obtain hW := hW; go_simp; with_reducible rfl); simp only [Act.put, List.setIfInBounds_toArray, List.set_cons_zero, List.set_cons_succ]) | (refine wpPi_off (by rfl) ?_; simp only [Act.put, List.setIfInBounds_toArray, List.set_cons_zero, List.set_cons_succ]))
    refine wpPi_nil ?_
    go_wp2
    go_ret
    exact .inl ⟨Hno.out, rfl, Hg1.out.trans (by (repeat (first | exact Below.refl _ _ | assumption | refine Below.drew ?_ | refine bDrewN ?_ | refine Below.setCell ?_ (by first | omega | (simp <;> omega)) _ | refine Below.alloc ?_ (by first | omega | (simp <;> omega)) _)))⟩
  have d2 : decide (nodes ≤ f) = false := by simp [c2]
  by_cases c3 : t < 0
  · have d3 : decide (t < 0) = true := by simp [c3]
    have Hno : Hid (¬ okR nodes bound L f t) := Lib.hid (by rintro ⟨_, _, _, _⟩; omega)
    refine wp_region_pi (fun W => Below w1.heap.size w1 W) [(0, false), (1, false), (2, false), (3, false), (4, false), (5, false), (6, false), (7, false), (8, false), (9, false), (10, false), (11, false), (12, false), (13, false), (14, false), (15, false), (16, false), (17, false), (18, false), (19, false), (20, false), (21, false), (22, false), (23, false), (24, false), (25, false), (26, false), (27, false), (28, false), (29, false), (30, false), (31, false), (33, false), (34, false), (35, false), (36, false), (32, true), (37, false), (38, false)] (by kernel_rfl) (by kernel_rfl) (fun c a d v w h => by cases d <;> exact h) (by (repeat (first | exact Below.refl _ _ | assumption | refine Below.drew ?_ | refine bDrewN ?_ | refine Below.setCell ?_ (by first | omega | (simp <;> omega)) _ | refine Below.alloc ?_ (by first | omega | (simp <;> omega)) _))) ?_
    simp only [arrange, nth]
    repeat (first | (refine wpPi_quiet (v := ?_) (by rfl) (fun W hW => ?_) ?_; rotate_left; (obtain hW := hW; go_simp; with_reducible rfl); simp only [Act.put, List.setIfInBounds_toArray, List.set_cons_zero, List.set_cons_succ]) | (refine wpPi_off (by rfl) ?_; simp only [Act.put, List.setIfInBounds_toArray, List.set_cons_zero, List.set_cons_succ]))
    refine wpPi_act_off (by rfl) (by (repeat (first | exact Below.refl _ _ | assumption | refine Below.drew ?_ | refine bDrewN ?_ | refine Below.setCell ?_ (by first | omega | (simp <;> omega)) _ | refine Below.alloc ?_ (by first | omega | (simp <;> omega)) _))) ?_
    try simp only [Act.put, List.setIfInBounds_toArray, List.set_cons_zero, List.set_cons_succ]
    repeat (first | (refine wpPi_quiet (v := ?_) (by rfl) (fun W hW => ?_) ?_; rotate_left; (obtain hW := hW; go_simp; with_reducible rfl); simp only [Act.put, List.setIfInBounds_toArray, List.set_cons_zero, List.set_cons_succ]) | (refine wpPi_off (by rfl) ?_; simp only [Act.put, List.setIfInBounds_toArray, List.set_cons_zero, List.set_cons_succ]))
    refine wpPi_nil ?_
    go_wp2
    go_ret
    exact .inl ⟨Hno.out, rfl, Hg1.out.trans (by (repeat (first | exact Below.refl _ _ | assumption | refine Below.drew ?_ | refine bDrewN ?_ | refine Below.setCell ?_ (by first | omega | (simp <;> omega)) _ | refine Below.alloc ?_ (by first | omega | (simp <;> omega)) _)))⟩
  have d3 : decide (t < 0) = false := by simp [c3]
  by_cases c4 : nodes ≤ t
  · have d4 : decide (nodes ≤ t) = true := by simp [c4]
    have Hno : Hid (¬ okR nodes bound L f t) := Lib.hid (by rintro ⟨_, _, _, _, _⟩; omega)
    refine wp_region_pi (fun W => Below w1.heap.size w1 W) [(0, false), (1, false), (2, false), (3, false), (4, false), (5, false), (6, false), (7, false), (8, false), (9, false), (10, false), (11, false), (12, false), (13, false), (14, false), (15, false), (16, false), (17, false), (18, false), (19, false), (20, false), (21, false), (22, false), (23, false), (24, false), (25, false), (26, false), (27, false), (28, false), (29, false), (30, false), (31, false), (33, false), (34, false), (35, false), (36, false), (32, true), (37, false), (38, false)] (by kernel_rfl) (by kernel_rfl) (fun c a d v w h => by cases d <;> exact h) (by (repeat (first | exact Below.refl _ _ | assumption | refine Below.drew ?_ | refine bDrewN ?_ | refine Below.setCell ?_ (by first | omega | (simp <;> omega)) _ | refine Below.alloc ?_ (by first | omega | (simp <;> omega)) _))) ?_
    simp only [arrange, nth]
    repeat (first | (refine wpPi_quiet (v := ?_) (by rfl) (fun W hW => ?_) ?_; rotate_left; (obtain hW := hW; go_simp; with_reducible rfl); simp only [Act.put, List.setIfInBounds_toArray, List.set_cons_zero, List.set_cons_succ]) | (refine wpPi_off (by rfl) ?_; simp only [Act.put, List.setIfInBounds_toArray, List.set_cons_zero, List.set_cons_succ]))
    refine wpPi_act_off (by rfl) (by (repeat (first | exact Below.refl _ _ | assumption | refine Below.drew ?_ | refine bDrewN ?_ | refine Below.setCell ?_ (by first | omega | (simp <;> omega)) _ | refine Below.alloc ?_ (by first | omega | (simp <;> omega)) _))) ?_
    try simp only [Act.put, List.setIfInBounds_toArray, List.set_cons_zero, List.set_cons_succ]
    repeat (first | (refine wpPi_quiet (v := ?_) (by rfl) (fun W hW => ?_) ?_; rotate_left; (obtain hW := hW; go_simp; with_reducible rfl); simp only [Act.put, List.setIfInBounds_toArray, List.set_cons_zero, List.set_cons_succ]) | (refine wpPi_off (by rfl) ?_; simp only [Act.put, List.setIfInBounds_toArray, List.set_cons_zero, List.set_cons_succ]))
    refine wpPi_nil ?_
    go_wp2
    go_ret
    exact .inl ⟨Hno.out, rfl, Hg1.out.trans (by (repeat (first | exact Below.refl _ _ | assumption | refine Below.drew ?_ | refine bDrewN ?_ | refine Below.setCell ?_ (by first | omega | (simp <;> omega)) _ | refine Below.alloc ?_ (by first | omega | (simp <;> omega)) _)))⟩
  have d4 : decide (nodes ≤ t) = false := by simp [c4]
  obtain ⟨n, hn⟩ : ∃ n : Nat, n = (ofL (f, t) L).length := ⟨_, rfl⟩
  have Hn := Lib.hid hn
  clear hn
  by_cases c5 : bound ≤ (n : Int)
  · have d5 : decide (bound ≤ (n : Int)) = true := by simp [c5]
    have Hno : Hid (¬ okR nodes bound L f t) := Lib.hid (by rintro ⟨_, _, _, _, h5⟩; rw [← Hn.out] at h5; omega)
    refine wp_region_pi (fun W => Below w1.heap.size w1 W) [(0, false), (1, false), (2, false), (3, false), (4, false), (5, false), (6, false), (7, false), (8, false), (9, false), (10, false), (11, false), (12, false), (13, false), (14, false), (15, false), (16, false), (17, false), (18, false), (19, false), (20, false), (21, false), (22, false), (23, false), (24, false), (25, false), (26, false), (27, false), (28, false), (29, false), (30, false), (31, false), (33, false), (34, false), (35, false), (36, false), (32, true), (37, false), (38, false)] (by kernel_rfl) (by kernel_rfl) (fun c a d v w h => by cases d <;> exact h) (by (repeat (first | exact Below.refl _ _ | assumption | refine Below.drew ?_ | refine bDrewN ?_ | refine Below.setCell ?_ (by first | omega | (simp <;> omega)) _ | refine Below.alloc ?_ (by first | omega | (simp <;> omega)) _))) ?_
    simp only [arrange, nth]
    repeat (first | (refine wpPi_quiet (v := ?_) (by rfl) (fun W hW => ?_) ?_; rotate_left; (obtain hW := hW; go_simp; with_reducible rfl); simp only [Act.put, List.setIfInBounds_toArray, List.set_cons_zero, List.set_cons_succ]) | (refine wpPi_off (by rfl) ?_; simp only [Act.put, List.setIfInBounds_toArray, List.set_cons_zero, List.set_cons_succ]))
    refine wpPi_call (by rfl) (by go_simp) (count_any (HR.out.grow (by (repeat (first | exact Below.refl _ _ | assumption | refine Below.drew ?_ | refine bDrewN ?_ | refine Below.setCell ?_ (by first | omega | (simp <;> omega)) _ | refine Below.alloc ?_ (by first | omega | (simp <;> omega)) _)))) (by omega) f t) ?_
    rw [← Hn.out]
    rintro e w2 ⟨rfl, hg2⟩
    have hgw : Grow w1 w2 := Grow.trans (Grow.drew w1) hg2
    refine ⟨_, rfl, hgw, ?_⟩
    try simp only [Act.put, List.setIfInBounds_toArray, List.set_cons_zero, List.set_cons_succ]
    repeat (first | (refine wpPi_quiet (v := ?_) (by rfl) (fun W hW => ?_) ?_; rotate_left; (obtain hW := hW; go_simp; with_reducible rfl); simp only [Act.put, List.setIfInBounds_toArray, List.set_cons_zero, List.set_cons_succ]) | (refine wpPi_off (by rfl) ?_; simp only [Act.put, List.setIfInBounds_toArray, List.set_cons_zero, List.set_cons_succ]))
    refine wpPi_nil ?_
    go_wp2
    go_ret
    exact .inl ⟨Hno.out, rfl, Hg1.out.trans hgw⟩
  have d5 : decide (bound ≤ (n : Int)) = false := by simp [c5]
  have Hok : Hid (okR nodes bound L f t) := Lib.hid ⟨by omega, by omega, by omega, by omega, by rw [← Hn.out]; omega⟩
  refine wp_region_pi (fun W => Below w1.heap.size w1 W) [(0, false), (1, false), (2, false), (3, false), (4, false), (5, false), (6, false), (7, false), (8, false), (9, false), (10, false), (11, false), (12, false), (13, false), (14, false), (15, false), (16, false), (17, false), (18, false), (19, false), (20, false), (21, false), (22, false), (23, false), (24, false), (25, false), (26, false), (27, false), (28, false), (29, false), (30, false), (31, false), (33, false), (34, false), (35, false), (36, false), (32, true), (37, false), (38, false)] (by kernel_rfl) (by kernel_rfl) (fun c a d v w h => by cases d <;> exact h) (by (repeat (first | exact Below.refl _ _ | assumption | refine Below.drew ?_ | refine bDrewN ?_ | refine Below.setCell ?_ (by first | omega | (simp <;> omega)) _ | refine Below.alloc ?_ (by first | omega | (simp <;> omega)) _))) ?_
  simp only [arrange, nth]
  repeat (first | (refine wpPi_quiet (v := ?_) (by rfl) (fun W hW => ?_) ?_; rotate_left; (obtain hW := hW; go_simp; with_reducible rfl); simp only [Act.put, List.setIfInBounds_toArray, List.set_cons_zero, List.set_cons_succ]) | (refine wpPi_off (by rfl) ?_; simp only [Act.put, List.setIfInBounds_toArray, List.set_cons_zero, List.set_cons_succ]))
  refine wpPi_call (by rfl) (by go_simp) (count_any (HR.out.grow (by (repeat (first | exact Below.refl _ _ | assumption | refine Below.drew ?_ | refine bDrewN ?_ | refine Below.setCell ?_ (by first | omega | (simp <;> omega)) _ | refine Below.alloc ?_ (by first | omega | (simp <;> omega)) _)))) (by omega) f t) ?_
  rw [← Hn.out]
  rintro e w2 ⟨rfl, hg2⟩
  have hgw : Grow w1 w2 := Grow.trans (Grow.drew w1) hg2
  refine ⟨_, rfl, hgw, ?_⟩
  try simp only [Act.put, List.setIfInBounds_toArray, List.set_cons_zero, List.set_cons_succ]
  repeat (first | (refine wpPi_quiet (v := ?_) (by rfl) (fun W hW => ?_) ?_; rotate_left; (obtain hW := hW; go_simp; with_reducible rfl); simp only [Act.put, List.setIfInBounds_toArray, List.set_cons_zero, List.set_cons_succ]) | (refine wpPi_off (by rfl) ?_; simp only [Act.put, List.setIfInBounds_toArray, List.set_cons_zero, List.set_cons_succ]))
  refine wpPi_nil ?_
  have Hg2 := Lib.hid hgw
  have e2 : w2.cell? ⟨nb, 2, none⟩ = some (.slice ba bl bc) := by rw [hcl _ _ _ hgw hblt]; exact b2
  have hnb2 := hgw.heap Hbox.out
  have HR2 := Lib.hid (HR.out.grow hgw)
  have hs2 : nb < w2.heap.size := lt_of_getElem? hnb2
  have Hb2 := Lib.hid ((Hb.out.grow Hg1.out).grow hgw)
  have Hnb2 := Lib.hid hnb2
  have Hww := Lib.hid (Grow.trans Hg1.out hgw)
  clear hgw hg2 hcl b0 b1 b2 k0 k1 k2 k3 hnb2 c1 c2 c3 c4 c5 d1 d2 d3 d4 d5
  obtain ⟨a3, cc3, w3, hrun, hob, hg3⟩ := run_copy_any (w := w2.alloc (.cells #[] 5)) (b0 := w2.heap.size) (heap_alloc_new w2 _) (Hb2.out.grow (Grow.alloc _ _)) hl
  have Hrun := Lib.hid hrun
  have Hob := Lib.hid hob
  have hg23 : Grow w2 w3 := (Grow.alloc _ _).trans hg3
  have hnb3 := hg23.heap Hnb2.out
  have n0 : w3.cell? ⟨nb, 2, none⟩ = some (.slice ba bl bc) := by simp [World.cell?, hnb3]
  have n1 : w3.frozen? ⟨nb, 2, none⟩ = false := by simp [World.frozen?, hnb3]
  have Hg23 := Lib.hid hg23
  have Hnb3 := Lib.hid hnb3
  clear hrun hob hg3 hg23 hnb3
  go_wp2_with (at_builtin; refine wpList_append rfl rfl rfl rfl Hrun.out ?_)
  have hg4 : Grow w (w3.setCell ⟨nb, 2, none⟩ (.slice (some ⟨a3, 0, none⟩) l.length cc3)) := Below.setCell (Hww.out.trans Hg23.out) (by have := Hnbw.out; show w.heap.size ≤ nb; omega) _
  have hnb4 : (w3.setCell ⟨nb, 2, none⟩ (.slice (some ⟨a3, 0, none⟩) l.length cc3)).heap[nb]? = some (.cells #[.int .i64 f, .int .i64 t, .slice (some ⟨a3, 0, none⟩) l.length cc3] 31 (0, 0)) := by
    rw [setCell_setO Hnb3.out, setO_same (lt_of_getElem? Hnb3.out)]; rfl
  have hob4 : OBytes 5 (w3.setCell ⟨nb, 2, none⟩ (.slice (some ⟨a3, 0, none⟩) l.length cc3)) (.slice (some ⟨a3, 0, none⟩) l.length cc3) l := by
    refine Hob.out.keep fun b hb => ?_
    cases hb
    rw [setCell_setO Hnb3.out, setO_other]
    intro e
    rcases Hob.out with ⟨h1, _⟩ | ⟨b, c, arr, h1, h2, _⟩
    · cases h1
    · cases h1
      have := Hnb3.out
      rw [← e, h2] at this
      cases this
  revert hg4 hnb4 hob4
  generalize w3.setCell ⟨nb, 2, none⟩ (.slice (some ⟨a3, 0, none⟩) l.length cc3) = w4
  intro hg4 hnb4 hob4
  have HR4 := Lib.hid (H.out.grow hg4)
  obtain ⟨k0, k1, k2, k3⟩ := HR4.out.cells
  have hq4 : q < w4.heap.size := lt_of_getElem? HR4.out.self
  have hnl4 : nb < w4.heap.size := lt_of_getElem? hnb4
  have b0 : w4.cell? ⟨nb, 0, none⟩ = some (.int .i64 f) := by simp [World.cell?, hnb4]
  have b1 : w4.cell? ⟨nb, 1, none⟩ = some (.int .i64 t) := by simp [World.cell?, hnb4]
  have b2 : w4.cell? ⟨nb, 2, none⟩ = some (.slice (some ⟨a3, 0, none⟩) l.length cc3) := by simp [World.cell?, hnb4]
  have HS : Hid (∀ W : World, W.heap[q]? = w4.heap[q]? → W.heap[nb]? = w4.heap[nb]? → W.cell? ⟨q, 3, none⟩ = some v ∧ W.cell? ⟨nb, 0, none⟩ = some (.int .i64 f) ∧ W.cell? ⟨nb, 1, none⟩ = some (.int .i64 t) ∧ W.cell? ⟨nb, 2, none⟩ = some (.slice (some ⟨a3, 0, none⟩) l.length cc3)) :=
    Lib.hid fun W h1 h2 => by
      refine ⟨?_, ?_, ?_, ?_⟩
      · rw [← k3]; simp only [World.cell?, h1]
      · rw [← b0]; simp only [World.cell?, h2]
      · rw [← b1]; simp only [World.cell?, h2]
      · rw [← b2]; simp only [World.cell?, h2]
  have Hg4 := Lib.hid hg4
  have Hnb4 := Lib.hid hnb4
  have Hob4 := Lib.hid hob4
  clear hg4 hnb4 hob4 n0 n1 e2 k0 k1 k2 k3 b0 b1 b2
  refine wp_region_last (fun W => W.cell? ⟨q, 3, none⟩ = some v ∧ W.cell? ⟨nb, 0, none⟩ = some (.int .i64 f) ∧ W.cell? ⟨nb, 1, none⟩ = some (.int .i64 t) ∧ W.cell? ⟨nb, 2, none⟩ = some (.slice (some ⟨a3, 0, none⟩) l.length cc3)) [(0, false), (1, false), (2, false), (3, false), (4, false), (5, false), (6, true), (7, true), (8, false), (9, false)] 10 (by kernel_rfl) (by kernel_rfl) (fun c a d v w h => by cases d <;> exact h) (HS.out _ rfl rfl) ?_
  simp only [arrange, nth]
  repeat (first | (refine wpPi_quiet (v := ?_) (by rfl) (fun W hW => ?_) ?_; rotate_left; (obtain ⟨s0, s1, s2, s3⟩ := hW; go_simp; with_reducible rfl); simp only [Act.put, List.setIfInBounds_toArray, List.set_cons_zero, List.set_cons_succ]) | (refine wpPi_off (by rfl) ?_; simp only [Act.put, List.setIfInBounds_toArray, List.set_cons_zero, List.set_cons_succ]))
  refine wpPi_run (by rfl) (execOp_buildSliceM rfl rfl) (HS.out _ (heap_alloc_old w4.drew _ hq4) (heap_alloc_old w4.drew _ hnl4)) ?_
  try simp only [Act.put, List.setIfInBounds_toArray, List.set_cons_zero, List.set_cons_succ]
  have hg5 : Grow w4 (w4.drew.alloc (.cells #[.int .i64 f, .int .i64 t, .slice (some ⟨a3, 0, none⟩) l.length cc3] 31)) := by (repeat (first | exact Below.refl _ _ | assumption | refine Below.drew ?_ | refine bDrewN ?_ | refine Below.setCell ?_ (by first | omega | (simp <;> omega)) _ | refine Below.alloc ?_ (by first | omega | (simp <;> omega)) _))
  have hnw : (w4.drew.alloc (.cells #[.int .i64 f, .int .i64 t, .slice (some ⟨a3, 0, none⟩) l.length cc3] 31)).heap[w4.heap.size]? = some (.cells (RM.cells ⟨f, t, .slice (some ⟨a3, 0, none⟩) l.length cc3, l⟩).toArray 31 (0, 0)) := heap_alloc_new w4.drew _
  obtain ⟨g, cap, w6, hrun6, hK6, hq6, hR6, hsm6, hK7⟩ := ref_push (HR4.out.grow hg5) ⟨f, t, .slice (some ⟨a3, 0, none⟩) l.length cc3, l⟩ (Hob4.out.keep fun b hb => (by
      rcases Hob4.out with ⟨h1, _⟩ | ⟨b', c, arr, h1, h2, _⟩
      · cases h1
      · cases h1; cases hb; exact (hg5.block _ (lt_of_getElem? h2)))) rfl hnw hmax
  have hne : v.ownBlock ≠ some nb := fun e => by have := (H.out.own.lt nb e).2; have := Hnbw.out; omega
  refine wpPi_run (by rfl) (execOp_append rfl rfl rfl hrun6) (HS.out _ (by rw [hq6, HR4.out.self]) (by rw [hsm6 nb (by have := hg5.size; omega) hne]; exact hg5.block nb hnl4)) ?_
  try simp only [Act.put, List.setIfInBounds_toArray, List.set_cons_zero, List.set_cons_succ]
  have q3 : w6.cell? ⟨q, 3, none⟩ = some v := by simp [World.cell?, hq6]
  have q3f : w6.frozen? ⟨q, 3, none⟩ = false := by simp [World.frozen?, hq6]
  repeat (first | (refine wpPi_quiet (v := ?_) (by rfl) (fun W hW => ?_) ?_; rotate_left; (obtain ⟨s0, s1, s2, s3⟩ := hW; go_simp; with_reducible rfl); simp only [Act.put, List.setIfInBounds_toArray, List.set_cons_zero, List.set_cons_succ]) | (refine wpPi_off (by rfl) ?_; simp only [Act.put, List.setIfInBounds_toArray, List.set_cons_zero, List.set_cons_succ]))
  refine wpPi_nil ?_
  try simp only [arrange, nth]
  refine lastQ_act (by rfl) (fun K hK => ?_)
  go_simp
  refine hK _ _ ?_
  clear hK K
  try simp only [Act.put, List.setIfInBounds_toArray, List.set_cons_zero, List.set_cons_succ]
  go_wp2
  go_ret
  refine .inr ⟨Hok.out, rfl, (Keep.ofGrow (Hg4.out.trans hg5) H.out.room).trans hK7, _, _, hR6⟩
end Go.Proofs.Ytbanfilgokideaa
