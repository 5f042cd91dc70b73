/- Merged out of EB, EC, ED: helpers. -/
import Derived.Test.YtfchjoejdijjeaaCJ
set_option linter.unusedSimpArgs false
set_option linter.unusedVariables false
/- chain.read. -/
namespace Go.Proofs.Ytfchjoejdijjeaa
open Go.RowKit Go.Gl Go.Wal Go.Ch Go.Shelf

/-- What is left of bytes behind their front. -/
theorem bv_rest {w : World} {a : Option Addr} {c : Nat} {x r l : List UInt8} (h : Bv w (.slice a l.length c) l) (hl : l = x ++ r) : ∃ ad, (if c = x.length then a else a.map (fun y => y.add x.length)) = ad ∧ Bv w (.slice ad (l.length - x.length) (c - x.length)) r ∧ x.length ≤ c ∧ x.length ≤ l.length ∧ l.length - x.length = r.length := by
  subst hl
  have hlc : (x ++ r).length ≤ c := by obtain ⟨a', c', e', hc', _⟩ := h; cases e'; exact hc'
  have hcut := bv_cut h (i := x.length) (j := (x ++ r).length) (by simp) (Nat.le_refl _)
  rw [List.drop_left] at hcut
  have hr : (x ++ r).length - x.length = r.length := by simp
  rw [hr, List.take_length] at hcut
  exact ⟨_, rfl, by rw [hr]; exact hcut, by simp at hlc; omega, by simp, hr⟩

/-- The blocks of read: its result, its array. -/
structure RdW (w W : World) (n0 n1 n2 : Nat) : Prop where
  grow : Grow w W
  b0 : W.heap[w.heap.size]? = some (.cells #[.int .i64 0, .int .i64 0, .int .u64 0, .slice none 0 0] 108 (0, 0))
  b1 : W.heap[w.heap.size + 1]? = some (.cells #[.int .u64 (n0 : Int), .int .u64 (n1 : Int), .int .u64 (n2 : Int)] 123 (0, 0))
theorem RdW.more {w W W' : World} {n0 n1 n2 : Nat} (h : RdW w W n0 n1 n2) (hg : Grow W W') : RdW w W' n0 n1 n2 := ⟨h.grow.trans hg, hg.heap h.b0, hg.heap h.b1⟩
theorem RdW.cells {w W : World} {n0 n1 n2 : Nat} (h : RdW w W n0 n1 n2) : W.cell? ⟨w.heap.size + 1, 0, none⟩ = some (.int .u64 (n0 : Int)) ∧ W.cell? ⟨w.heap.size + 1, 1, none⟩ = some (.int .u64 (n1 : Int)) ∧ W.cell? ⟨w.heap.size + 1, 2, none⟩ = some (.int .u64 (n2 : Int)) := by
  have := h.b1
  refine ⟨?_, ?_, ?_⟩ <;> simp [World.cell?, this]
theorem RdW.set0 {w W : World} {n0 n1 n2 n : Nat} (h : RdW w W n0 n1 n2) : RdW w (W.setCell ⟨w.heap.size + 1, 0, none⟩ (.int .u64 (n : Int))) n n1 n2 :=
  ⟨h.grow.setCell (p := ⟨w.heap.size + 1, 0, none⟩) (by simp) _, by rw [Below.heap_setCell _ _ _ _ (by simp)]; exact h.b0, by have := setCell_heap h.b1 0 (.int .u64 (n : Int)); simpa using this⟩
theorem RdW.set1 {w W : World} {n0 n1 n2 n : Nat} (h : RdW w W n0 n1 n2) : RdW w (W.setCell ⟨w.heap.size + 1, 1, none⟩ (.int .u64 (n : Int))) n0 n n2 :=
  ⟨h.grow.setCell (p := ⟨w.heap.size + 1, 1, none⟩) (by simp) _, by rw [Below.heap_setCell _ _ _ _ (by simp)]; exact h.b0, by have := setCell_heap h.b1 1 (.int .u64 (n : Int)); simpa using this⟩
theorem RdW.set2 {w W : World} {n0 n1 n2 n : Nat} (h : RdW w W n0 n1 n2) : RdW w (W.setCell ⟨w.heap.size + 1, 2, none⟩ (.int .u64 (n : Int))) n0 n1 n :=
  ⟨h.grow.setCell (p := ⟨w.heap.size + 1, 2, none⟩) (by simp) _, by rw [Below.heap_setCell _ _ _ _ (by simp)]; exact h.b0, by have := setCell_heap h.b1 2 (.int .u64 (n : Int)); simpa using this⟩

set_option maxRecDepth 100000 in
set_option maxHeartbeats 4000000 in
theorem read_any {w : World} {mv : Value} {n0 n1 n2 : Nat} {p : List UInt8} (h : Bv w mv (hdrD n0 n1 n2 ++ bytesD p)) (hk1 : 1 ≤ n0) (hk4 : n0 ≤ 4) (he : n1 ≤ 1099511627776) (hi : n2 ≤ 1000000000) (hp : p.length ≤ 500000000000) :
    Calls Try.prog 50 #[mv] w fun q w' => ∃ v, q = .returned (.tuple #[.agg #[.int .i64 (n0 : Int), .int .i64 (n1 : Int), .int .u64 (n2 : Int), v], .bool true]) ∧ OwnB w.heap.size w' v p ∧ Grow w w' := by
  obtain ⟨L3, hl3⟩ : ∃ L, bytesD p = L := ⟨_, rfl⟩
  obtain ⟨L2, hl2⟩ : ∃ L, L = numD n2 ++ L3 := ⟨_, rfl⟩
  obtain ⟨L1, hl1⟩ : ∃ L, L = numD n1 ++ L2 := ⟨_, rfl⟩
  obtain ⟨L0, hl0⟩ : ∃ L, L = numD n0 ++ L1 := ⟨_, rfl⟩
  have hL : hdrD n0 n1 n2 ++ bytesD p = L0 := by rw [hl0, hl1, hl2, hl3]; unfold hdrD; simp
  rw [hL] at h
  obtain ⟨a0, c0, rfl⟩ := h.slice
  have hh := two_alloc w #[.int .i64 0, .int .i64 0, .int .u64 0, .slice none 0 0] #[.int .u64 0, .int .u64 0, .int .u64 0] 108 123
  have hg1 := hh.2.2.1
  have HW0 : Hid (RdW w ((w.alloc (.cells #[.int .i64 0, .int .i64 0, .int .u64 0, .slice none 0 0] 108)).alloc (.cells #[.int .u64 0, .int .u64 0, .int .u64 0] 123)) 0 0 0) := Lib.hid ⟨hg1, hh.1, hh.2.1⟩
  have H0 := Lib.hid h
  have Hl0 := Lib.hid hl0
  have Hl1 := Lib.hid hl1
  have Hl2 := Lib.hid hl2
  have Hl3 := Lib.hid hl3
  clear h hl0 hl1 hl2 hl3 hh hg1 hL
  go_enter Try.func50, Try.ntmps50
  go_upto_region 2 with fail
  generalize (w.alloc (.cells #[.int .i64 0, .int .i64 0, .int .u64 0, .slice none 0 0] 108)).alloc (.cells #[.int .u64 0, .int .u64 0, .int .u64 0] 123) = W0 at *
  go_wp2_with fail
  refine wp_loop_rounds 4 ?_
  rw [rounds_succ]
  have hrn0 : rnD L0 = (n0, (numD n0).length, 0) := by rw [Hl0.out]; exact rn_any (by omega) _
  have hb0 := readNumber_any (H0.out.grow HW0.out.grow)
  rw [hrn0] at hb0
  obtain ⟨q0, hq0⟩ : ∃ q, (numD n0).length = q := ⟨_, rfl⟩
  obtain ⟨a1, had0, hb1, hqc0, hql0, hlen0⟩ := bv_rest H0.out Hl0.out
  simp only [hq0] at hb0 had0 hb1 hqc0 hql0 hlen0
  have Hrn0 := Lib.hid hb0
  rw [hlen0] at hb1
  obtain ⟨c1, hc1⟩ : ∃ c, c0 - q0 = c := ⟨_, rfl⟩
  rw [hc1] at hb1
  have H1 := Lib.hid hb1
  have Hlen0 := Lib.hid hlen0
  have Hc1 := Lib.hid hc1
  clear hrn0 hb0 hb1 hq0 H0 hlen0 hc1
  go_wp2_with fail
  (with_reducible refine Hrn0.out.mono ?_)
  rintro e wn0 ⟨rfl, hw0⟩
  have hw0' := hw0.symm
  subst hw0'
  clear hw0 Hrn0
  go_wp2_with fail
  refine wp_region_row (fun _ => True) [6] (by kernel_rfl) (fun c a d v w h => by cases d <;> exact h) trivial ?_
  have hwd0 := HW0.out.more (Grow.drew W0)
  clear HW0
  generalize W0.drew = D0 at *
  simp only [inRow]
  repeat ((first | (apply wpPi_quiet; rfl; rintro W _; go_simp; with_reducible rfl) | (apply wpPi_off; rfl)); simp only [putA, List.set])
  rw [Hlen0.out, Hc1.out]
  obtain ⟨x0, x1, x2⟩ := hwd0.cells
  have y0 := frz hwd0.b1 0
  have y1 := frz hwd0.b1 1
  have y2 := frz hwd0.b1 2
  have y3 : w.heap.size + 1 < D0.heap.size := lt_of_getElem? hwd0.b1
  refine wpPi_act (by rfl) (fun K hK => ?_)
  go_simp
  refine hK _ _ ⟨trivial, ?_⟩
  clear hK K
  try first | simp only [putA, List.set] | simp only [putN]
  repeat ((first | (apply wpPi_quiet; rfl; rintro W _; go_simp; with_reducible rfl) | (apply wpPi_off; rfl)); simp only [putA, List.set])
  refine wpPi_nil ?_
  have HW1 := Lib.hid (hwd0.set0 (n := n0))
  clear x0 x1 x2 y0 y1 y2 y3 hwd0 had0 Hlen0 Hc1
  generalize D0.setCell ⟨w.heap.size + 1, 0, none⟩ (.int .u64 (n0 : Int)) = W1 at *
  go_wp2_with fail
  rw [rounds_succ]
  have hrn1 : rnD L1 = (n1, (numD n1).length, 0) := by rw [Hl1.out]; exact rn_any (by omega) _
  have hb1 := readNumber_any (H1.out.grow HW1.out.grow)
  rw [hrn1] at hb1
  obtain ⟨q1, hq1⟩ : ∃ q, (numD n1).length = q := ⟨_, rfl⟩
  obtain ⟨a2, had1, hb2, hqc1, hql1, hlen1⟩ := bv_rest H1.out Hl1.out
  simp only [hq1] at hb1 had1 hb2 hqc1 hql1 hlen1
  have Hrn1 := Lib.hid hb1
  rw [hlen1] at hb2
  obtain ⟨c2, hc2⟩ : ∃ c, c1 - q1 = c := ⟨_, rfl⟩
  rw [hc2] at hb2
  have H2 := Lib.hid hb2
  have Hlen1 := Lib.hid hlen1
  have Hc2 := Lib.hid hc2
  clear hrn1 hb1 hb2 hq1 H1 hlen1 hc2
  go_wp2_with fail
  (with_reducible refine Hrn1.out.mono ?_)
  rintro e wn1 ⟨rfl, hw1⟩
  have hw1' := hw1.symm
  subst hw1'
  clear hw1 Hrn1
  go_wp2_with fail
  refine wp_region_row (fun _ => True) [6] (by kernel_rfl) (fun c a d v w h => by cases d <;> exact h) trivial ?_
  have hwd1 := HW1.out.more (Grow.drew W1)
  clear HW1
  generalize W1.drew = D1 at *
  simp only [inRow]
  repeat ((first | (apply wpPi_quiet; rfl; rintro W _; go_simp; with_reducible rfl) | (apply wpPi_off; rfl)); simp only [putA, List.set])
  rw [Hlen1.out, Hc2.out]
  obtain ⟨x0, x1, x2⟩ := hwd1.cells
  have y0 := frz hwd1.b1 0
  have y1 := frz hwd1.b1 1
  have y2 := frz hwd1.b1 2
  have y3 : w.heap.size + 1 < D1.heap.size := lt_of_getElem? hwd1.b1
  refine wpPi_act (by rfl) (fun K hK => ?_)
  go_simp
  refine hK _ _ ⟨trivial, ?_⟩
  clear hK K
  try first | simp only [putA, List.set] | simp only [putN]
  repeat ((first | (apply wpPi_quiet; rfl; rintro W _; go_simp; with_reducible rfl) | (apply wpPi_off; rfl)); simp only [putA, List.set])
  refine wpPi_nil ?_
  have HW2 := Lib.hid (hwd1.set1 (n := n1))
  clear x0 x1 x2 y0 y1 y2 y3 hwd1 had1 Hlen1 Hc2
  generalize D1.setCell ⟨w.heap.size + 1, 1, none⟩ (.int .u64 (n1 : Int)) = W2 at *
  go_wp2_with fail
  rw [rounds_succ]
  have hrn2 : rnD L2 = (n2, (numD n2).length, 0) := by rw [Hl2.out]; exact rn_any (by omega) _
  have hb2 := readNumber_any (H2.out.grow HW2.out.grow)
  rw [hrn2] at hb2
  obtain ⟨q2, hq2⟩ : ∃ q, (numD n2).length = q := ⟨_, rfl⟩
  obtain ⟨a3, had2, hb3, hqc2, hql2, hlen2⟩ := bv_rest H2.out Hl2.out
  simp only [hq2] at hb2 had2 hb3 hqc2 hql2 hlen2
  have Hrn2 := Lib.hid hb2
  rw [hlen2] at hb3
  obtain ⟨c3, hc3⟩ : ∃ c, c2 - q2 = c := ⟨_, rfl⟩
  rw [hc3] at hb3
  have H3 := Lib.hid hb3
  have Hlen2 := Lib.hid hlen2
  have Hc3 := Lib.hid hc3
  clear hrn2 hb2 hb3 hq2 H2 hlen2 hc3
  go_wp2_with fail
  (with_reducible refine Hrn2.out.mono ?_)
  rintro e wn2 ⟨rfl, hw2⟩
  have hw2' := hw2.symm
  subst hw2'
  clear hw2 Hrn2
  go_wp2_with fail
  refine wp_region_row (fun _ => True) [6] (by kernel_rfl) (fun c a d v w h => by cases d <;> exact h) trivial ?_
  have hwd2 := HW2.out.more (Grow.drew W2)
  clear HW2
  generalize W2.drew = D2 at *
  simp only [inRow]
  repeat ((first | (apply wpPi_quiet; rfl; rintro W _; go_simp; with_reducible rfl) | (apply wpPi_off; rfl)); simp only [putA, List.set])
  rw [Hlen2.out, Hc3.out]
  obtain ⟨x0, x1, x2⟩ := hwd2.cells
  have y0 := frz hwd2.b1 0
  have y1 := frz hwd2.b1 1
  have y2 := frz hwd2.b1 2
  have y3 : w.heap.size + 1 < D2.heap.size := lt_of_getElem? hwd2.b1
  refine wpPi_act (by rfl) (fun K hK => ?_)
  go_simp
  refine hK _ _ ⟨trivial, ?_⟩
  clear hK K
  try first | simp only [putA, List.set] | simp only [putN]
  repeat ((first | (apply wpPi_quiet; rfl; rintro W _; go_simp; with_reducible rfl) | (apply wpPi_off; rfl)); simp only [putA, List.set])
  refine wpPi_nil ?_
  have HW3 := Lib.hid (hwd2.set2 (n := n2))
  clear x0 x1 x2 y0 y1 y2 y3 hwd2 had2 Hlen2 Hc3
  generalize D2.setCell ⟨w.heap.size + 1, 2, none⟩ (.int .u64 (n2 : Int)) = W3 at *
  go_wp2_with fail
  rw [rounds_succ]
  go_wp2_with fail
  have hl3 := Hl3.out
  have hm : L3.length ≤ 500000000010 := by rw [← hl3]; have := numD_len p.length; simp [bytesD]; omega
  have hrb := readBytes_m (x := p) (r := []) (m := L3.length) (by rw [List.append_nil, hl3]; exact H3.out.grow HW3.out.grow) hp (by simp) (by rw [← hl3]; simp [bytesD]) (by omega)
  have hnl : (numD p.length).length + p.length = L3.length := by rw [← hl3]; simp [bytesD]
  rw [hnl] at hrb
  have Hrb := Lib.hid hrb
  clear hrb hnl hl3
  (with_reducible refine Hrb.out.mono ?_)
  rintro e w4 ⟨v4, rfl, h4, hg4⟩
  have HW4 := Lib.hid (HW3.out.more hg4)
  obtain ⟨x0, x1, x2⟩ := HW4.out.cells
  have y3 : w.heap.size + 1 < w4.heap.size := lt_of_getElem? HW4.out.b1
  have hb0 := HW4.out.b0
  have r0 : w4.cell? ⟨w.heap.size, 0, none⟩ = some (.int .i64 0) := by simp [World.cell?, hb0]
  have r1 : w4.cell? ⟨w.heap.size, 1, none⟩ = some (.int .i64 0) := by simp [World.cell?, hb0]
  have r2 : w4.cell? ⟨w.heap.size, 2, none⟩ = some (.int .u64 0) := by simp [World.cell?, hb0]
  have r3 : w4.cell? ⟨w.heap.size, 3, none⟩ = some (.slice none 0 0) := by simp [World.cell?, hb0]
  have f0 := frz hb0 0
  have f1 := frz hb0 1
  have f2 := frz hb0 2
  have f3 := frz hb0 3
  have e1 : decide ((1 : Int) ≤ (n0 : Int)) = true := by simp; omega
  have e2 : decide ((n0 : Int) ≤ 4) = true := by simp; omega
  have e3 : decide ((n1 : Int) ≤ 1099511627776) = true := by simp; omega
  have z0 : IntKind.i64.wrap (n0 : Int) = (n0 : Int) := IntWalk.i64_in _ (by omega)
  have z1 : IntKind.i64.wrap (n1 : Int) = (n1 : Int) := IntWalk.i64_in _ (by omega)
  have H4 := Lib.hid h4
  obtain ⟨va, vc, rfl⟩ := h4.slice
  have hw3 := HW3.out.grow.size
  have Hg := Lib.hid HW4.out.grow
  clear hb0 h4 hg4 Hrb
  go_wp2
  refine bodyPost_ret (v := .tuple #[.agg #[.int .i64 (n0 : Int), .int .i64 (n1 : Int), .int .u64 (n2 : Int), .slice va p.length vc], .bool true]) (by simp [results, Try.results50, go_sem, r0, r1, r2, r3]) rfl ⟨_, rfl, ?_, ?_⟩
  · refine Row1.mono (Row1.keep H4.out (fun g hgg => ?_)) hw3
    have h5 := (Row1.lt H4.out hgg).1
    have h6 := lt_of_getElem? HW3.out.b1
    have h7 : ∀ j, (⟨w.heap.size, j, none⟩ : Addr).block ≠ g := fun j e => by have e' : w.heap.size = g := e; omega
    repeat rw [Below.heap_setCell _ _ _ _ (fun e => h7 _ e.symm)]
  · have h1 := Hg.out
    have h2 := h1.size
    ((repeat (first | exact Below.refl _ _ | assumption | refine Below.drew ?_ | refine bDrewN ?_ | refine Below.setCell ?_ ?_ _ | refine Below.alloc ?_ ?_ _)) <;> try (first | omega | (simp <;> omega)))
end Go.Proofs.Ytfchjoejdijjeaa

/- A node: all state is taken in: its first half. -/
namespace Go.Proofs.Ytfchjoejdijjeaa
open Go.RowKit Go.Gl Go.Wal Go.Ch Go.Shelf
section
variable {C : Type} {f : C → List UInt8} {N : Nat → Prop} {w w' w1 : World} {nb bb : Nat} {cv cfv sv : Value} {d : Nd} {b : Box C}

theorem SayPost.low {n : Nat} {D : List UInt8} {e : Ending} (h : SayPost w1 d n D e w') (hg : Grow w w1) : SayPost w d n D e w' := by
  obtain ⟨g, mv, he, hgl, hc, hb, hgr⟩ := h
  exact ⟨g, mv, he, Nat.le_trans hg.size hgl, hc, hb.mono (fun x hx _ => Nat.le_trans hg.size hx), hg.trans hgr⟩

set_option maxRecDepth 100000 in
theorem ndone_say (h : NdAt f N w nb bb cv cfv sv d b) {m : Mem} (hm : d.ahead = some m) {i : Nat} (hi : i ≤ 1000000000) :
    Calls Try.prog 54 #[.pointer (some ⟨nb, 0, none⟩), .int .u64 (i : Int)] w (SayPost w d m.node (msgD f (⟨d.self, m.node, d.cfg.epoch, .tail i⟩ : Msg C))) := by
  have H := Lib.hid h
  obtain ⟨mn, mb, mw⟩ := m
  have Hp := Lib.hid (om_split (nahead_any h) (show d.ahead.getD zeroM = ⟨mn, mb, mw⟩ by rw [hm]; rfl) (show d.ahead.isSome = true by rw [hm]; rfl))
  have hlt := h.lt
  have He : Hid (hdrD 2 d.cfg.epoch i ++ bytesD [] = msgD f (⟨d.self, mn, d.cfg.epoch, .tail i⟩ : Msg C)) := Lib.hid rfl
  generalize msgD f (⟨d.self, mn, d.cfg.epoch, .tail i⟩ : Msg C) = D at *
  clear h hm
  go_enter Try.func54, Try.ntmps54
  go_wp2_with fail
  (with_reducible refine Hp.out.mono ?_)
  rintro e w1 ⟨rfl, hg1⟩
  have hga : Grow w1 (w1.alloc (.cells #[.int .i64 (mn : Int), .int .i64 (mb : Int), .bool mw] 71)) := Grow.alloc _ _
  have Hg1 := Lib.hid (hg1.trans hga)
  have hn := H.out.grow Hg1.out
  have Hs := Lib.hid (say_k hn ⟨mn, mb, mw⟩ (k := 2) (kI := 2) rfl rfl (by decide) hi (bw_nil (fun _ => True) _).1 (by simp))
  clear Hp hga hn hg1
  go_wp2_with fail
  (with_reducible refine Hs.out.mono ?_)
  rintro e w2 hs
  have hs' := hs.low Hg1.out
  rw [He.out] at hs'
  obtain ⟨g, mv, rfl, r1, r2, r3, r4⟩ := hs'
  have Hq : Hid (SayPost w d mn D (.returned (.slice (some ⟨g, 0, none⟩) 1 1)) w2) := Lib.hid ⟨g, mv, rfl, r1, r2, r3, r4⟩
  clear Hs hs r1 r2 r3 r4
  go_wp2
  go_ret
  exact Hq.out

set_option maxRecDepth 100000 in
theorem ndone_none (h : NdAt f N w nb bb cv cfv sv d b) (hm : d.ahead = none) (i : Int) :
    Calls Try.prog 54 #[.pointer (some ⟨nb, 0, none⟩), .int .u64 i] w fun e w' => e = .returned (.slice none 0 0) ∧ Grow w w' := by
  have H := Lib.hid h
  have Hp := Lib.hid (om_split (nahead_any h) (show d.ahead.getD zeroM = ⟨0, 0, false⟩ by rw [hm]; rfl) (show d.ahead.isSome = false by rw [hm]; rfl))
  have hlt := h.lt
  clear h hm
  go_enter Try.func54, Try.ntmps54
  go_wp2_with fail
  (with_reducible refine Hp.out.mono ?_)
  rintro e w1 ⟨rfl, hg1⟩
  have Hg1 := Lib.hid hg1
  have Hs := Lib.hid (fun W => say_none ⟨0, 0, false⟩ (.int .i64 2) (.int .u64 i) (.slice none 0 0) W (.pointer (some ⟨nb, 0, none⟩)))
  clear Hp hg1
  go_wp2_with fail
  refine (Hs.out _).mono ?_
  rintro e w2 ⟨rfl, hg2⟩
  have Hg := Lib.hid ((Hg1.out.trans (Grow.alloc _ _)).trans hg2)
  clear hg2 Hs
  go_wp2
  go_ret
  exact ⟨rfl, Hg.out⟩
theorem append_mnil (w : World) : (Builtin.append_ #[41, 41] 41 #[.slice none 0 0, .slice none 0 0]).run Try.prog w = .ok (.slice none 0 0) w := by
  obtain ⟨i0, hi0, hz0, hz1, hz2⟩ := info_parts Try.infoM
  exact run_append_nothing w 41 41 41 62 i0 Try.underlying41 hi0 none 0 0 (Nat.le_refl _) _ (Src.ofNil w Try.underlying41 0)
theorem ahead_none_done (h : d.ahead = none) (i : Nat) : (doneM d i : List (Msg C)) = [] := by unfold doneM; rw [h]; rfl

/-- What stands behind the first half. -/
def StMid (f : C → List UInt8) (N : Nat → Prop) (w : World) (nb bb : Nat) (cv cfv sv : Value) (d : Nd) (b1 : Box C) (cs : List (Com C)) (v : Value) (wx : World) : Prop :=
  ∃ cv1, NdAt f (Nw N w (FN nb bb cv1)) wx nb bb cv1 cfv sv d b1 ∧ Sep (FN nb bb cv) w wx (FN nb bb cv1) ∧ ComR f (Nw N w (FN nb bb cv1)) wx v cs
def stB (d : Nd) (b : Box C) (a : Nat) (l : List C) : Box C := (b.load a l).mark d.cfg.epoch true
/-- The node's box and the commits behind the first half. -/
def stMid (d : Nd) (b : Box C) (a : Nat) (l : List C) : Box C × List (Com C) :=
  if wholeB d b = true then (b, []) else if d.tail = true then (keptB (stB d b a l), keptC (stB d b a l)) else (stB d b a l, [])

/-- Load, then Mark. -/
theorem load_mark (h : NdAt f N w nb bb cv cfv sv d b) {a : Nat} {l : List C} {e : Ending} (hl : LoadPost f N w bb cv b a l e w1) :
    ∃ cv1, e = .returned (.int .i64 0) ∧ NdAt f (Nw N w (FN nb bb cv1)) w1 nb bb cv1 cfv sv d (b.load a l) ∧ Sep (FN nb bb cv) w w1 (FN nb bb cv1) := by
  obtain ⟨cv1, he, hb, hs⟩ := hl
  obtain ⟨h1, h2⟩ := h.turn hb hs
  exact ⟨cv1, he, h1, h2⟩
end
end Go.Proofs.Ytfchjoejdijjeaa

/- A node: all state is taken in. -/
namespace Go.Proofs.Ytfchjoejdijjeaa
open Go.RowKit Go.Gl Go.Wal Go.Ch Go.Shelf
section
variable {C : Type} {f : C → List UInt8} {N : Nat → Prop} {w w' w1 : World} {nb bb : Nat} {cv cfv sv : Value} {d : Nd} {b : Box C}

theorem nw_up {F F' : Nat → Prop} (hap : ∀ x, N x → ¬ F x) (hg : Grow w w1) (h2 : Sep F w1 w' F') (x : Nat) (hx : Nw N w1 F' x) : Nw N w F' x := by
  rcases hx with ⟨h5, h6⟩ | ⟨h5, h6⟩
  · by_cases hl : x < w.heap.size
    · exact .inl ⟨h5, hl⟩
    · refine .inr ⟨by omega, fun hF => ?_⟩
      rcases h2.foot x hF with h7 | h7
      · exact hap x h5 h7
      · omega
  · exact .inr ⟨Nat.le_trans hg.size h5, h6⟩

theorem state_eq (d : Nd) (b : Box C) (a : Nat) (l : List C) (h : wholeB d b = true ∨ b.full = false) :
    stateM d b a l = ⟨d, (stMid d b a l).1, sayM d d.ahead .whole ++ (if d.tail = true then doneM d (stMid d b a l).1.cmds.length else []), (stMid d b a l).2⟩ := by
  unfold stateM stMid
  cases hw : wholeB d b with
  | true => simp
  | false =>
    rcases h with h | h
    · rw [hw] at h; cases h
    · rw [h]
      have hk : (keptB (stB d b a l)).cmds = l := by unfold keptB Box.trim stB; split <;> rfl
      cases ht : d.tail with
      | true =>
        have hk' : (keptB ((b.load a l).mark d.cfg.epoch true)).cmds = l := hk
        simp [hk', stB]
      | false => simp [stB]

set_option maxRecDepth 100000 in
set_option maxHeartbeats 4000000 in
theorem state_full (h : NdAt f N w nb bb cv cfv sv d b) (hw : wholeB d b = false) (hfu : b.full = true) (a : Nat) (l : List C) (xa : Option Addr) (xl xc : Nat) :
    Calls Try.prog 53 #[.pointer (some ⟨nb, 0, none⟩), .slice xa xl xc] w (OutPost f N w nb bb cv (stateM d b a l)) := by
  have he : stateM d b a l = ⟨d, b, [], []⟩ := by unfold stateM; rw [hw, hfu]; rfl
  rw [he]
  have H := Lib.hid h
  have Hw := Lib.hid (nwhole_any h)
  rw [hw] at Hw
  have hlt := h.lt
  have m1 := Try.methLoad (.pointer (some ⟨bb, 0, none⟩))
  clear h he hw
  go_enter Try.func53, Try.ntmps53
  go_wp2_with fail
  (with_reducible refine Hw.out.mono ?_)
  rintro e w1 ⟨rfl, hg1⟩
  have Hg := Lib.hid (hg1.trans (Grow.drew w1))
  clear hg1 Hw
  go_wp2_with fail
  have hd := H.out.grow Hg.out
  refine wp_region_row (fun W => nb < W.heap.size ∧ W.cell? ⟨nb, 7, none⟩ = some (.iface 48 (.pointer (some ⟨bb, 0, none⟩))) ∧ W.cell? ⟨nb, 0, none⟩ = some (.int .i64 (d.cfg.epoch : Int))) [5, 14] (by kernel_rfl) (fun c a d v w h => by cases d <;> exact h) ⟨hd.lt, hd.m, hd.pl.c0⟩ ?_
  generalize w1.drew = wd at *
  simp only [inRow]
  repeat ((first | (apply wpPi_quiet; rfl; rintro W ⟨hl0, hW0, hW1⟩; go_simp; with_reducible rfl) | (apply wpPi_off; rfl)); simp only [putA, List.set])
  refine wpPi_call (by rfl) (by go_simp) (load_full hd.box hfu (.slice xa xl xc)) ?_
  rintro e w3 ⟨rfl, hw1⟩
  have hw2 := hw1.symm
  subst hw2
  clear hw1
  refine ⟨_, rfl, ⟨hd.lt, hd.m, hd.pl.c0⟩, ?_⟩
  try first | simp only [putA, List.set] | simp only [putN]
  repeat ((first | (apply wpPi_quiet; rfl; rintro W ⟨hl0, hW0, hW1⟩; go_simp; with_reducible rfl) | (apply wpPi_off; rfl)); simp only [putA, List.set])
  refine wpPi_act_off (by rfl) ⟨hd.lt, hd.m, hd.pl.c0⟩ ?_
  try first | simp only [putA, List.set] | simp only [putN]
  repeat ((first | (apply wpPi_quiet; rfl; rintro W ⟨hl0, hW0, hW1⟩; go_simp; with_reducible rfl) | (apply wpPi_off; rfl)); simp only [putA, List.set])
  refine wpPi_nil ?_
  clear hd
  go_wp2
  go_ret2
  exact OutPost.same H.out Hg.out

set_option maxRecDepth 100000 in
set_option maxHeartbeats 4000000 in
theorem nstate_any (h : NdAt f N w nb bb cv cfv sv d b) (hf : ∀ c, (f c).length ≤ 1048576) (hnf : wholeB d b = true ∨ b.full = false) {a : Nat} {l : List C} (hl : l.length ≤ 100000) (hal : a ≤ l.length) {xv : Value} (hx : Bv w xv (saveD f a l)) :
    Calls Try.prog 53 #[.pointer (some ⟨nb, 0, none⟩), xv] w (OutPost f N w nb bb cv (stateM d b a l)) := by
  have H := Lib.hid h
  have Hx := Lib.hid hx
  obtain ⟨xa, xc, rfl⟩ := hx.slice
  have Hw := Lib.hid (nwhole_any h)
  have hlt := h.lt
  have hep := h.ep
  obtain ⟨O, hO⟩ : ∃ o, stateM d b a l = o := ⟨_, rfl⟩
  have hst := state_eq d b a l hnf
  rw [hO] at hst ⊢
  have HO := Lib.hid hst
  obtain ⟨SL, hSL⟩ : ∃ n, (saveD f a l).length = n := ⟨_, rfl⟩
  rw [hSL]
  have HSL := Lib.hid hSL
  obtain ⟨wh, hwh⟩ : ∃ q, wholeB d b = q := ⟨_, rfl⟩
  rw [hwh] at Hw hnf
  have Hwh := Lib.hid hwh
  obtain ⟨B1, hB1⟩ : ∃ q, (stMid d b a l).1 = q := ⟨_, rfl⟩
  obtain ⟨K1, hK1⟩ : ∃ q, (stMid d b a l).2 = q := ⟨_, rfl⟩
  rw [hB1, hK1] at HO
  have HB1 := Lib.hid hB1
  have HK1 := Lib.hid hK1
  clear h hx hO hst hSL hwh hB1 hK1
  go_enter Try.func53, Try.ntmps53
  go_wp2_with fail
  (with_reducible refine Hw.out.mono ?_)
  rintro e w1 ⟨rfl, hg1⟩
  have Hg1 := Lib.hid hg1
  clear hg1 Hw
  go_upto_if 12 with fail
  go_cut [6] from 13 to 41 (fun v wx => StMid f N w nb bb cv cfv sv d B1 K1 v wx)
  case first =>
    cases wh with
    | true =>
      have Hr : Hid (StMid f N w nb bb cv cfv sv d B1 K1 (.slice none 0 0) w1) := Lib.hid (by
        rw [← HB1.out, ← HK1.out]
        unfold stMid
        rw [Hwh.out]
        exact ⟨cv, H.out.nw (H.out.grow Hg1.out) (Sep.ofGrow Hg1.out), Sep.ofGrow Hg1.out, comR_nil _ _⟩)
      go_wp2_with fail
      go_meet
      exact Hr.out
    | false =>
      have hfu : b.full = false := by
        rcases hnf with h | h
        · cases h
        · exact h
      have m1 := Try.methLoad (.pointer (some ⟨bb, 0, none⟩))
      have m2 := Try.methMark (.pointer (some ⟨bb, 0, none⟩))
      go_wp2_with fail
      have hgd := Hg1.out.trans (Grow.drew w1)
      have hd := H.out.grow hgd
      refine wp_region_row (fun W => nb < W.heap.size ∧ W.cell? ⟨nb, 7, none⟩ = some (.iface 48 (.pointer (some ⟨bb, 0, none⟩))) ∧ W.cell? ⟨nb, 0, none⟩ = some (.int .i64 (d.cfg.epoch : Int))) [5, 14] (by kernel_rfl) (fun c a d v w h => by cases d <;> exact h) ⟨hd.lt, hd.m, hd.pl.c0⟩ ?_
      generalize w1.drew = wd at *
      simp only [inRow]
      repeat ((first | (apply wpPi_quiet; rfl; rintro W ⟨hl0, hW0, hW1⟩; go_simp; with_reducible rfl) | (apply wpPi_off; rfl)); simp only [putA, List.set])
      have hload := load_any hd.box hf hfu hl hal (Hx.out.grow hgd)
      rw [HSL.out] at hload
      refine wpPi_call (by rfl) (by go_simp) hload ?_
      rintro e w3 hr
      obtain ⟨cv1, rfl, hn3, hs3⟩ := load_mark hd hr
      refine ⟨_, rfl, ⟨hn3.lt, hn3.m, hn3.pl.c0⟩, ?_⟩
      try first | simp only [putA, List.set] | simp only [putN]
      repeat ((first | (apply wpPi_quiet; rfl; rintro W ⟨hl0, hW0, hW1⟩; go_simp; with_reducible rfl) | (apply wpPi_off; rfl)); simp only [putA, List.set])
      refine wpPi_call (by rfl) (by go_simp) (mark_any hn3.box (ep := d.cfg.epoch) (wh := true) hep) ?_
      rintro e w4 ⟨rfl, hb4, hs4⟩
      have hlf : (b.load a l).full = false := hfu
      rw [hlf] at hb4
      rw [if_neg (by decide)] at hb4
      obtain ⟨hn4, hsn4⟩ := hn3.turn0 hb4 hs4
      have hcode : (if (b.load a l).full = true then (5 : Int) else 0) = 0 := by rw [hlf]; rfl
      rw [hcode]
      refine ⟨_, rfl, ⟨hn4.lt, hn4.m, hn4.pl.c0⟩, ?_⟩
      have Hs4 := Lib.hid (hs3.trans hsn4)
      have Hn4 := Lib.hid hn4
      have Hd := Lib.hid hd
      have hl4 := hn4.lt
      have Ht := Lib.hid (ptail_any hn4.pl)
      obtain ⟨tl, htl⟩ : ∃ q, d.tail = q := ⟨_, rfl⟩
      rw [htl] at Ht
      have Htl := Lib.hid htl
      have Hgd := Lib.hid hgd
      clear hb4 hs4 hn4 hsn4 hr hn3 hs3 hload hd hlf hcode htl hgd
      try first | simp only [putA, List.set] | simp only [putN]
      repeat ((first | (apply wpPi_quiet; rfl; rintro W ⟨hl0, hW0, hW1⟩; go_simp; with_reducible rfl) | (apply wpPi_off; rfl)); simp only [putA, List.set])
      refine wpPi_nil ?_
      go_wp2_with fail
      (with_reducible refine Ht.out.mono ?_)
      rintro e w5 ⟨rfl, hg5⟩
      have hn5 := Hn4.out.grow hg5
      have hl5 := hn5.lt
      have hmid : Hid (∀ (v : Value) (w6 : World), NdAt f (Nw N wd (FN nb bb cv1)) w6 nb bb cv1 cfv sv d B1 → Sep (FN nb bb cv) wd w6 (FN nb bb cv1) → ComR f (fun x => w5.heap.size ≤ x) w6 v K1 → StMid f N w nb bb cv cfv sv d B1 K1 v w6) := Lib.hid fun v w6 hn hs hc => by
        have hss : Sep (FN nb bb cv) w w6 (FN nb bb cv1) := (Sep.ofGrow Hgd.out).trans hs
        refine ⟨cv1, hn.mono (fun x hx _ => nw_up H.out.apart Hgd.out hs x hx) (nw_apart H.out.apart hss.foot), hss, hc.mono (fun x hx _ => .inr ⟨?_, fun hF => ?_⟩)⟩
        · have := Hgd.out.size; have := Hs4.out.size; have := hg5.size; omega
        · have := hn5.flt hF; omega
      have hB : B1 = if tl = true then keptB (stB d b a l) else stB d b a l := by
        rw [← HB1.out]; unfold stMid; rw [Hwh.out, if_neg (by decide), Htl.out]; cases tl <;> rfl
      have hK : K1 = if tl = true then keptC (stB d b a l) else [] := by
        rw [← HK1.out]; unfold stMid; rw [Hwh.out, if_neg (by decide), Htl.out]; cases tl <;> rfl
      cases tl with
      | false =>
        have Hr := Lib.hid (hmid.out (.slice none 0 0) w5 (by rw [hB]; exact hn5) (Hs4.out.grow hg5) (by rw [hK]; exact comR_nil _ _))
        clear hB hK hn5 hg5 Ht
        go_wp2_with fail
        go_meet
        exact Hr.out
      | true =>
        have Hk := Lib.hid (kept_any hn5 hf)
        have HB := Lib.hid hB
        have HK := Lib.hid hK
        have Hg5 := Lib.hid hg5
        clear hB hK hn5 hg5 Ht
        go_wp2_with fail
        (with_reducible refine Hk.out.mono ?_)
        rintro e w6 ⟨v, rfl, hc6, hn6, hs6⟩
        have Hr := Lib.hid (hmid.out v w6 (by rw [HB.out]; exact hn6) ((Hs4.out.grow Hg5.out).trans hs6) (by rw [HK.out]; exact hc6))
        obtain ⟨ka, kc, rfl⟩ := hc6.slice
        clear hc6 hn6 hs6 Hk
        go_wp2_with fail
        go_meet
        exact Hr.out
  case rest =>
    obtain ⟨cv1, hn1, hs1, hc1⟩ := hcut
    have H1 := Lib.hid hn1
    have Hs1 := Lib.hid hs1
    have Hc1 := Lib.hid hc1
    have hl1 := hn1.lt
    have hlen := hn1.box.len
    obtain ⟨ka, kc, rfl⟩ := hc1.slice
    obtain ⟨M, hM⟩ : ∃ M, d.ahead.getD zeroM = M := ⟨_, rfl⟩
    obtain ⟨ss, hss⟩ : ∃ s, d.ahead.isSome = s := ⟨_, rfl⟩
    obtain ⟨mn, mb, mw⟩ := M
    have Hp := Lib.hid (om_split (nahead_any hn1) hM hss)
    have Hah : Hid (d.ahead = if ss = true then some ⟨mn, mb, mw⟩ else none) := Lib.hid (by
      cases ho : d.ahead with
      | none => rw [ho] at hss; cases hss; rfl
      | some m => rw [ho] at hss hM; cases hss; cases hM; rfl)
    have m1 := Try.methApplied (.pointer (some ⟨bb, 0, none⟩))
    clear hn1 hs1 hc1 hM hss
    have hfin : Hid (∀ (v : Value) (ms : List (Msg C)) (w6 : World) (B : Nat), wc.heap.size ≤ B → OwnMs f B w6 v ms → Grow wc w6 → sayM d d.ahead .whole ++ (if d.tail = true then doneM d B1.cmds.length else []) = ms → OutPost f N w nb bb cv O (.returned (.tuple #[v, .slice ka K1.length kc])) w6) := Lib.hid fun v ms w6 B hB hv hg hms => by
      rw [HO.out, hms]
      have hss := Hs1.out.grow hg
      refine ⟨_, _, cv1, _, _, rfl, H1.out.grow hg, hss, hv.msgR.mono (fun x hx _ => .inr ⟨?_, fun hF => ?_⟩), Hc1.out.grow hg⟩
      · have := Hs1.out.size; omega
      · have := H1.out.flt hF; omega
    go_wp2_with fail
    (with_reducible refine Hp.out.mono ?_)
    rintro e w2 ⟨rfl, hg2⟩
    have hga := hg2.trans (Grow.alloc w2 (.cells #[.int .i64 (mn : Int), .int .i64 (mb : Int), .bool mw] 71))
    have Hga := Lib.hid hga
    have hn3 := H1.out.grow hga
    obtain ⟨tl, htl⟩ : ∃ q, d.tail = q := ⟨_, rfl⟩
    have Htl := Lib.hid htl
    cases ss with
    | false =>
      have hao : d.ahead = none := Hah.out
      have Hs := Lib.hid (say_none ⟨mn, mb, mw⟩ (.int .i64 3) (.int .u64 0) (.slice none 0 0) (w2.alloc (.cells #[.int .i64 (mn : Int), .int .i64 (mb : Int), .bool mw] 71)) (.pointer (some ⟨nb, 0, none⟩)))
      have Hao := Lib.hid hao
      clear hn3 hga hg2 Hp hao htl
      go_wp2_with fail
      (with_reducible refine Hs.out.mono ?_)
      rintro e w4 ⟨rfl, hg4⟩
      have Hg4 := Lib.hid (Hga.out.trans hg4)
      have hn4 := H1.out.grow Hg4.out
      have hl4 := hn4.lt
      have Ht := Lib.hid (ptail_any hn4.pl)
      rw [Htl.out] at Ht
      clear hg4 Hs hn4
      go_wp2_with fail
      (with_reducible refine Ht.out.mono ?_)
      rintro e w5 ⟨rfl, hg5⟩
      have Hg5 := Lib.hid (Hg4.out.trans hg5)
      have hn5 := H1.out.grow Hg5.out
      have hl5 := hn5.lt
      have k75 := hn5.m
      have Ha := Lib.hid (applied_any hn5.box)
      have Hdn := Lib.hid (ndone_none hn5 Hao.out (B1.cmds.length : Int))
      have hms : Hid (∀ w6, Grow wc w6 → OutPost f N w nb bb cv O (.returned (.tuple #[.slice none 0 0, .slice ka K1.length kc])) w6) := Lib.hid fun w6 hg => hfin.out _ [] w6 _ (Nat.le_refl _) (ownMs_nil _ _) hg (by rw [ahead_none_done Hao.out, Hao.out]; simp [sayM])
      clear hg5 Ht hn5
      cases tl with
      | false =>
        have Hq := Lib.hid (hms.out _ Hg5.out)
        go_wp2
        go_ret2
        exact Hq.out
      | true =>
        go_wp2_with fail
        (with_reducible refine Ha.out.mono ?_)
        rintro e w6 ⟨rfl, hw1⟩
        have hw2 := hw1.symm
        subst hw2
        clear hw1 Ha
        go_wp2_with fail
        (with_reducible refine Hdn.out.mono ?_)
        rintro e w6 ⟨rfl, hg6⟩
        have Hq := Lib.hid (hms.out _ (Hg5.out.trans hg6))
        have Hr := Lib.hid (append_mnil w6)
        clear hg6 Hdn
        go_wp2_with (at_builtin; refine wpList_append rfl rfl rfl rfl Hr.out ?_)
        go_ret2
        exact Hq.out
    | true =>
      have hao : d.ahead = some ⟨mn, mb, mw⟩ := Hah.out
      have Hs := Lib.hid (say_k hn3 ⟨mn, mb, mw⟩ (k := 3) (i := 0) (kI := 3) (iI := 0) rfl rfl (by decide) (by decide) (bw_nil (fun _ => True) _).1 (by simp))
      have Hao := Lib.hid hao
      clear hn3 hga hg2 Hp hao htl
      go_wp2_with fail
      (with_reducible refine Hs.out.mono ?_)
      rintro e w4 hs
      obtain ⟨v4, rfl, ho4, hg4⟩ := hs.own (f := f) (x := ⟨d.self, mn, d.cfg.epoch, .whole⟩) rfl rfl rfl
      have Hg34 := Lib.hid hg4
      have Hg4 := Lib.hid (Hga.out.trans hg4)
      have hn4 := H1.out.grow Hg4.out
      have hl4 := hn4.lt
      have Ht := Lib.hid (ptail_any hn4.pl)
      rw [Htl.out] at Ht
      have Ho4 := Lib.hid ho4
      obtain ⟨oa, oc, rfl⟩ := ho4.slice
      clear hg4 Hs hn4 hs ho4
      go_wp2_with fail
      (with_reducible refine Ht.out.mono ?_)
      rintro e w5 ⟨rfl, hg5⟩
      have Hg5 := Lib.hid (Hg4.out.trans hg5)
      have Hg45 := Lib.hid hg5
      have hn5 := H1.out.grow Hg5.out
      have hl5 := hn5.lt
      have k75 := hn5.m
      have Ha := Lib.hid (applied_any hn5.box)
      have Hdn := Lib.hid (ndone_say hn5 Hao.out (i := B1.cmds.length) (by omega))
      clear hg5 Ht hn5
      cases tl with
      | false =>
        have Hq := Lib.hid (hfin.out _ _ w5 _ Hga.out.size (Ho4.out.grow Hg45.out) Hg5.out (by rw [Hao.out, Htl.out]; rfl))
        go_wp2
        go_ret2
        exact Hq.out
      | true =>
        go_wp2_with fail
        (with_reducible refine Ha.out.mono ?_)
        rintro e w6 ⟨rfl, hw1⟩
        have hw2 := hw1.symm
        subst hw2
        clear hw1 Ha
        go_wp2_with fail
        (with_reducible refine Hdn.out.mono ?_)
        rintro e w6 ⟨g6, mv, rfl, hg6, hc6, hb6, hgr6⟩
        obtain ⟨v', w', r1, r2, r3, r4⟩ := Ho4.out.push (x := ⟨d.self, mn, d.cfg.epoch, .tail B1.cmds.length⟩) (Hg45.out.trans hgr6) hc6 (hb6.mono (fun x hx _ => Nat.le_trans Hg45.out.size hx)) Hg34.out.size (by simp)
        have Hr := Lib.hid r1
        have Hq := Lib.hid (hfin.out _ _ w' _ Hga.out.size r2 (Below.trans Hg4.out (r3.mono Hga.out.size)) (by rw [Hao.out, Htl.out]; unfold doneM; rw [Hao.out]; rfl))
        obtain ⟨qa, qc, rfl⟩ := r2.slice
        clear r1 r2 r3 r4 hb6 hc6 hgr6 Hdn
        go_wp2_with (at_builtin; refine wpList_append rfl rfl rfl rfl Hr.out ?_)
        go_ret2
        exact Hq.out
end
end Go.Proofs.Ytfchjoejdijjeaa
