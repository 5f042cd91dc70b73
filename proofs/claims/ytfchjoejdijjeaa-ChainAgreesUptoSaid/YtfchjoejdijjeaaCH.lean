/- Merged out of E1, E2, E3, E4, E5: helpers. -/
import Derived.Test.YtfchjoejdijjeaaCG
set_option linter.unusedSimpArgs false
set_option linter.unusedVariables false
/- A node in memory: ahead, behind, Whole, Head. -/
namespace Go.Proofs.Ytfchjoejdijjeaa
open Go.RowKit Go.Gl Go.Wal Go.Ch Go.Shelf
theorem Try.methApplied (v : Value) (w : World) : (method 253 48 v "Applied").run Try.prog w = .ok (89, v) w := by kernel_rfl
theorem Try.methRun (v : Value) (w : World) : (method 253 48 v "Run").run Try.prog w = .ok (94, v) w := by kernel_rfl
theorem Try.methEntry (v : Value) (w : World) : (method 253 48 v "Entry").run Try.prog w = .ok (90, v) w := by kernel_rfl
theorem Try.methFirst (v : Value) (w : World) : (method 253 48 v "First").run Try.prog w = .ok (14, v) w := by kernel_rfl
theorem Try.methTrim (v : Value) (w : World) : (method 253 48 v "Trim").run Try.prog w = .ok (96, v) w := by kernel_rfl
theorem Try.methMark (v : Value) (w : World) : (method 253 48 v "Mark").run Try.prog w = .ok (92, v) w := by kernel_rfl
theorem Try.methMarked (v : Value) (w : World) : (method 253 48 v "Marked").run Try.prog w = .ok (93, v) w := by kernel_rfl
theorem Try.methSave (v : Value) (w : World) : (method 253 48 v "Save").run Try.prog w = .ok (95, v) w := by kernel_rfl
theorem Try.methLoad (v : Value) (w : World) : (method 253 48 v "Load").run Try.prog w = .ok (91, v) w := by kernel_rfl
section
variable {C : Type} (f : C → List UInt8)
abbrev nodeC (cfv sv : Value) (bb : Nat) (d : Nd) : Array Value := #[.int .i64 (d.cfg.epoch : Int), cfv, sv, .int .i64 (d.self : Int), .int .i64 (d.birth : Int), .bool d.has, .bool d.told, .iface 48 (.pointer (some ⟨bb, 0, none⟩))]
/-- A node's blocks: its own, its box's. -/
def FN (nb bb : Nat) (cv : Value) (b : Nat) : Prop := b = nb ∨ FB bb cv b
structure NdAt (N : Nat → Prop) (w : World) (nb bb : Nat) (cv cfv sv : Value) (d : Nd) (b : Box C) : Prop where
  blk : w.heap[nb]? = some (.cells (nodeC cfv sv bb d) 79 (0, 0))
  box : BxAt f N w bb cv b
  cfg : CfgR N w cfv sv d.cfg
  own : ∀ x, N x → x ≠ nb
  ep : d.cfg.epoch ≤ 1099511627776
  slf : d.self ≤ 1000
  bir : d.birth ≤ 1000000000
variable {f} {N : Nat → Prop} {w w' : World} {nb bb : Nat} {cv cfv sv : Value} {d : Nd} {b : Box C}
theorem NdAt.grow (h : NdAt f N w nb bb cv cfv sv d b) (hg : Grow w w') : NdAt f N w' nb bb cv cfv sv d b :=
  ⟨hg.heap h.blk, h.box.grow hg, h.cfg.grow hg, h.own, h.ep, h.slf, h.bir⟩
theorem NdAt.lt (h : NdAt f N w nb bb cv cfv sv d b) : nb < w.heap.size := lt_of_getElem? h.blk
theorem NdAt.pl (h : NdAt f N w nb bb cv cfv sv d b) : PlAt N w nb d cfv sv := by
  have := h.blk
  exact ⟨h.lt, by simp [World.cell?, this], by simp [World.cell?, this], by simp [World.cell?, this], by simp [World.cell?, this], by simp [World.cell?, this], by simp [World.cell?, this], by simp [World.cell?, this], h.cfg⟩
theorem NdAt.m (h : NdAt f N w nb bb cv cfv sv d b) : w.cell? ⟨nb, 7, none⟩ = some (.iface 48 (.pointer (some ⟨bb, 0, none⟩))) := by
  have := h.blk
  simp [World.cell?, this]
theorem NdAt.apart (h : NdAt f N w nb bb cv cfv sv d b) (x : Nat) (hx : N x) : ¬ FN nb bb cv x := by
  rintro (rfl | h1)
  · exact h.own _ hx rfl
  · exact h.box.apart x hx h1
theorem NdAt.flt (h : NdAt f N w nb bb cv cfv sv d b) {x : Nat} (hx : FN nb bb cv x) : x < w.heap.size := by
  rcases hx with rfl | hx
  · exact h.lt
  · exact h.box.lt hx
theorem NdAt.ne (h : NdAt f N w nb bb cv cfv sv d b) : ¬ FB bb cv nb := by
  rintro (e | e)
  · have h1 := h.blk
    have h2 := h.box.blk
    rw [← e, h1] at h2; cases h2
  · obtain ⟨_, cur, hc⟩ := h.box.row.lt e
    rw [h.blk] at hc; cases hc

theorem wholeB_eq (d : Nd) (b : Box C) : wholeB d b = (d.member.isSome && ((d.member.getD zeroM).whole || (b.whole && ((b.epoch : Int) == (d.cfg.epoch : Int))))) := by
  unfold wholeB
  cases d.member with
  | none => rfl
  | some m =>
    have : decide (b.epoch = d.cfg.epoch) = ((b.epoch : Int) == (d.cfg.epoch : Int)) := by by_cases h : b.epoch = d.cfg.epoch <;> simp [h]; omega
    simp [this]

set_option maxRecDepth 100000 in
theorem nwhole_any (h : NdAt f N w nb bb cv cfv sv d b) :
    Calls Try.prog 15 #[.pointer (some ⟨nb, 0, none⟩)] w fun e w' => e = .returned (.bool (wholeB d b)) ∧ Grow w w' := by
  have H := Lib.hid h
  obtain ⟨M, hM⟩ : ∃ M, d.member.getD zeroM = M := ⟨_, rfl⟩
  obtain ⟨ss, hss⟩ : ∃ s, d.member.isSome = s := ⟨_, rfl⟩
  have Hp := Lib.hid (om_split (pmember_any h.pl) hM hss)
  have hres := wholeB_eq d b
  rw [hM, hss] at hres
  obtain ⟨be, hbe⟩ : ∃ q, ((b.epoch : Int) == (d.cfg.epoch : Int)) = q := ⟨_, rfl⟩
  rw [hbe] at hres
  have Hres := Lib.hid hres
  generalize wholeB d b = dt at *
  have hlt := h.lt
  clear h hres hM hss
  go_enter Try.func15, Try.ntmps15
  go_wp2_with fail
  (with_reducible refine Hp.out.mono ?_)
  rintro e w1 ⟨rfl, hg1⟩
  have hga : Grow w1 (w1.alloc (.cells #[.int .i64 (M.node : Int), .int .i64 (M.birth : Int), .bool M.whole] 71)) := Grow.alloc _ _
  have Hg1 := Lib.hid (hg1.trans hga)
  have hr1 := heap_alloc_new w1 (.cells #[.int .i64 (M.node : Int), .int .i64 (M.birth : Int), .bool M.whole] 71)
  have hn := H.out.grow Hg1.out
  have k7 := hn.m
  have hl1 := hn.lt
  have Hm := Lib.hid (marked_any hn.box)
  clear Hp hga hn
  have hme := Try.methMarked (.pointer (some ⟨bb, 0, none⟩))
  generalize hw2 : w1.alloc (.cells #[.int .i64 (M.node : Int), .int .i64 (M.birth : Int), .bool M.whole] 71) = w2 at *
  go_wp2_with fail
  (with_reducible refine Hm.out.mono ?_)
  rintro e w3 ⟨rfl, hg3⟩
  have Hg3 := Lib.hid (Hg1.out.trans hg3)
  have hr3 := hg3.heap hr1
  have r2 : w3.cell? ⟨w1.heap.size, 2, none⟩ = some (.bool M.whole) := by simp [World.cell?, hr3]
  have l3 : w1.heap.size < w3.heap.size := lt_of_getElem? hr3
  have hn3 := (H.out.grow Hg3.out)
  have k0 := hn3.pl.c0
  have hl3 := hn3.lt
  clear Hm hr3 hr1 hg3 hn3 hme hw2 k7 hl1 Hg1
  cases ss <;> cases hMw : M.whole <;> cases hbw : b.whole
  all_goals
    rw [hMw, hbw] at Hres
    go_wp2
    go_ret
    exact ⟨by rw [Hres.out]; rfl, Hg3.out⟩
end
end Go.Proofs.Ytfchjoejdijjeaa

/- A node in memory: ahead, behind, Head. -/
namespace Go.Proofs.Ytfchjoejdijjeaa
open Go.RowKit Go.Gl Go.Wal Go.Ch Go.Shelf
section
variable {C : Type} {f : C → List UInt8} {N : Nat → Prop} {w w' : World} {nb bb : Nat} {cv cfv sv : Value} {d : Nd} {b : Box C}

set_option maxRecDepth 100000 in
theorem nahead_any (h : NdAt f N w nb bb cv cfv sv d b) :
    Calls Try.prog 51 #[.pointer (some ⟨nb, 0, none⟩)] w fun e w' => e = .returned (omR d.ahead) ∧ Grow w w' := by
  have H := Lib.hid h.pl
  obtain ⟨a, cc, rfl⟩ := h.cfg.chain.slice
  obtain ⟨sa, sc, rfl⟩ := h.cfg.stores.slice
  have hg1 : Grow w (w.alloc (.cells #[.int .i64 0, .int .i64 0, .bool false] 71)) := Grow.alloc _ _
  have hr := heap_alloc_new w (.cells #[.int .i64 0, .int .i64 0, .bool false] 71)
  have Hr := Lib.hid hr
  have Hg1 := Lib.hid hg1
  have hlt := h.lt
  obtain ⟨oo, hoo⟩ : ∃ o, d.ahead = o := ⟨_, rfl⟩
  have Hc := Lib.hid (ahead_any ((h.pl.grow hg1).grow (Grow.drew _)).cfg d.self)
  rw [show aheadM d.cfg.chain d.self = oo from hoo] at Hc
  rw [hoo]
  clear h hg1 hr hoo
  go_enter Try.func51, Try.ntmps51
  go_upto_region 1 with fail
  generalize w.alloc (.cells #[.int .i64 0, .int .i64 0, .bool false] 71) = w1 at *
  have HS : Hid (∀ W, Grow w1 W → Grow w W ∧ nb < W.heap.size ∧ W.cell? ⟨nb, 0, none⟩ = some (.int .i64 (d.cfg.epoch : Int)) ∧ W.cell? ⟨nb, 1, none⟩ = some (.slice a d.cfg.chain.length cc) ∧ W.cell? ⟨nb, 2, none⟩ = some (.slice sa d.cfg.stores.length sc) ∧ W.cell? ⟨nb, 3, none⟩ = some (.int .i64 (d.self : Int))) := Lib.hid fun W hW => by
    have h1 := (H.out.grow Hg1.out).grow hW
    exact ⟨Hg1.out.trans hW, h1.lt, h1.c0, h1.c1, h1.c2, h1.c3⟩
  refine wp_region_row (fun W => Grow w W ∧ nb < W.heap.size ∧ W.cell? ⟨nb, 0, none⟩ = some (.int .i64 (d.cfg.epoch : Int)) ∧ W.cell? ⟨nb, 1, none⟩ = some (.slice a d.cfg.chain.length cc) ∧ W.cell? ⟨nb, 2, none⟩ = some (.slice sa d.cfg.stores.length sc) ∧ W.cell? ⟨nb, 3, none⟩ = some (.int .i64 (d.self : Int))) [10, 2] (by kernel_rfl) (fun c a d v w h => by cases d <;> exact h) (HS.out _ (Grow.drew w1)) ?_
  simp only [inRow]
  repeat ((first | (apply wpPi_quiet; rfl; rintro W ⟨hW, hlt, hW0, hW1, hW2, hW3⟩; go_simp; with_reducible rfl) | (apply wpPi_off; rfl)); simp only [putA, List.set])
  refine wpPi_call (by rfl) (by go_simp) Hc.out ?_
  rintro e w2 ⟨rfl, hg2⟩
  have Hg2 := Lib.hid ((Grow.drew w1).trans hg2)
  refine ⟨_, rfl, HS.out _ Hg2.out, ?_⟩
  clear hg2 Hc
  try first | simp only [putA, List.set] | simp only [putN]
  repeat ((first | (apply wpPi_quiet; rfl; rintro W ⟨hW, hlt, hW0, hW1, hW2, hW3⟩; go_simp; with_reducible rfl) | (apply wpPi_off; rfl)); simp only [putA, List.set])
  have hr2 := Hg2.out.heap Hr.out
  have r0 : w2.cell? ⟨w.heap.size, 0, none⟩ = some (.int .i64 0) := by simp [World.cell?, hr2]
  have r1 : w2.cell? ⟨w.heap.size, 1, none⟩ = some (.int .i64 0) := by simp [World.cell?, hr2]
  have r2 : w2.cell? ⟨w.heap.size, 2, none⟩ = some (.bool false) := by simp [World.cell?, hr2]
  have f0 : w2.frozen? ⟨w.heap.size, 0, none⟩ = false := frz hr2 0
  have f1 : w2.frozen? ⟨w.heap.size, 1, none⟩ = false := frz hr2 1
  have f2 : w2.frozen? ⟨w.heap.size, 2, none⟩ = false := frz hr2 2
  have k4 : w.heap.size < w2.heap.size := lt_of_getElem? hr2
  have hne : w.heap.size ≠ nb := by omega
  clear hr2
  obtain ⟨g0, jl, j0, j1, j2, j3⟩ := HS.out _ Hg2.out
  refine wpPi_act (by rfl) (fun K hK => ?_)
  go_simp
  refine hK _ _ ⟨⟨by ((repeat (first | exact Below.refl _ _ | assumption | refine Below.drew ?_ | refine bDrewN ?_ | refine Below.setCell ?_ ?_ _ | refine Below.alloc ?_ ?_ _)) <;> try (first | omega | (simp <;> omega))), by (go_simp <;> omega), by go_simp, by go_simp, by go_simp, by go_simp⟩, ?_⟩
  clear hK K
  try first | simp only [putA, List.set] | simp only [putN]
  repeat ((first | (apply wpPi_quiet; rfl; rintro W ⟨hW, hlt, hW0, hW1, hW2, hW3⟩; go_simp; with_reducible rfl) | (apply wpPi_off; rfl)); simp only [putA, List.set])
  refine wpPi_nil ?_
  go_wp2
  exact bodyPost_ret (v := omR oo) (by simp [results, Try.results51, go_sem, r0, r1, r2]) rfl ⟨rfl, by ((repeat (first | exact Below.refl _ _ | assumption | refine Below.drew ?_ | refine bDrewN ?_ | refine Below.setCell ?_ ?_ _ | refine Below.alloc ?_ ?_ _)) <;> try (first | omega | (simp <;> omega)))⟩

set_option maxRecDepth 100000 in
theorem nbehind_any (h : NdAt f N w nb bb cv cfv sv d b) :
    Calls Try.prog 32 #[.pointer (some ⟨nb, 0, none⟩)] w fun e w' => e = .returned (omR d.behind) ∧ Grow w w' := by
  have H := Lib.hid h.pl
  obtain ⟨a, cc, rfl⟩ := h.cfg.chain.slice
  obtain ⟨sa, sc, rfl⟩ := h.cfg.stores.slice
  have hg1 : Grow w (w.alloc (.cells #[.int .i64 0, .int .i64 0, .bool false] 71)) := Grow.alloc _ _
  have hr := heap_alloc_new w (.cells #[.int .i64 0, .int .i64 0, .bool false] 71)
  have Hr := Lib.hid hr
  have Hg1 := Lib.hid hg1
  have hlt := h.lt
  obtain ⟨oo, hoo⟩ : ∃ o, d.behind = o := ⟨_, rfl⟩
  have Hc := Lib.hid (next_any ((h.pl.grow hg1).grow (Grow.drew _)).cfg d.self)
  rw [show behindM d.cfg.chain d.self = oo from hoo] at Hc
  rw [hoo]
  clear h hg1 hr hoo
  go_enter Try.func32, Try.ntmps32
  go_upto_region 1 with fail
  generalize w.alloc (.cells #[.int .i64 0, .int .i64 0, .bool false] 71) = w1 at *
  have HS : Hid (∀ W, Grow w1 W → Grow w W ∧ nb < W.heap.size ∧ W.cell? ⟨nb, 0, none⟩ = some (.int .i64 (d.cfg.epoch : Int)) ∧ W.cell? ⟨nb, 1, none⟩ = some (.slice a d.cfg.chain.length cc) ∧ W.cell? ⟨nb, 2, none⟩ = some (.slice sa d.cfg.stores.length sc) ∧ W.cell? ⟨nb, 3, none⟩ = some (.int .i64 (d.self : Int))) := Lib.hid fun W hW => by
    have h1 := (H.out.grow Hg1.out).grow hW
    exact ⟨Hg1.out.trans hW, h1.lt, h1.c0, h1.c1, h1.c2, h1.c3⟩
  refine wp_region_row (fun W => Grow w W ∧ nb < W.heap.size ∧ W.cell? ⟨nb, 0, none⟩ = some (.int .i64 (d.cfg.epoch : Int)) ∧ W.cell? ⟨nb, 1, none⟩ = some (.slice a d.cfg.chain.length cc) ∧ W.cell? ⟨nb, 2, none⟩ = some (.slice sa d.cfg.stores.length sc) ∧ W.cell? ⟨nb, 3, none⟩ = some (.int .i64 (d.self : Int))) [10, 2] (by kernel_rfl) (fun c a d v w h => by cases d <;> exact h) (HS.out _ (Grow.drew w1)) ?_
  simp only [inRow]
  repeat ((first | (apply wpPi_quiet; rfl; rintro W ⟨hW, hlt, hW0, hW1, hW2, hW3⟩; go_simp; with_reducible rfl) | (apply wpPi_off; rfl)); simp only [putA, List.set])
  refine wpPi_call (by rfl) (by go_simp) Hc.out ?_
  rintro e w2 ⟨rfl, hg2⟩
  have Hg2 := Lib.hid ((Grow.drew w1).trans hg2)
  refine ⟨_, rfl, HS.out _ Hg2.out, ?_⟩
  clear hg2 Hc
  try first | simp only [putA, List.set] | simp only [putN]
  repeat ((first | (apply wpPi_quiet; rfl; rintro W ⟨hW, hlt, hW0, hW1, hW2, hW3⟩; go_simp; with_reducible rfl) | (apply wpPi_off; rfl)); simp only [putA, List.set])
  have hr2 := Hg2.out.heap Hr.out
  have r0 : w2.cell? ⟨w.heap.size, 0, none⟩ = some (.int .i64 0) := by simp [World.cell?, hr2]
  have r1 : w2.cell? ⟨w.heap.size, 1, none⟩ = some (.int .i64 0) := by simp [World.cell?, hr2]
  have r2 : w2.cell? ⟨w.heap.size, 2, none⟩ = some (.bool false) := by simp [World.cell?, hr2]
  have f0 : w2.frozen? ⟨w.heap.size, 0, none⟩ = false := frz hr2 0
  have f1 : w2.frozen? ⟨w.heap.size, 1, none⟩ = false := frz hr2 1
  have f2 : w2.frozen? ⟨w.heap.size, 2, none⟩ = false := frz hr2 2
  have k4 : w.heap.size < w2.heap.size := lt_of_getElem? hr2
  have hne : w.heap.size ≠ nb := by omega
  clear hr2
  obtain ⟨g0, jl, j0, j1, j2, j3⟩ := HS.out _ Hg2.out
  refine wpPi_act (by rfl) (fun K hK => ?_)
  go_simp
  refine hK _ _ ⟨⟨by ((repeat (first | exact Below.refl _ _ | assumption | refine Below.drew ?_ | refine bDrewN ?_ | refine Below.setCell ?_ ?_ _ | refine Below.alloc ?_ ?_ _)) <;> try (first | omega | (simp <;> omega))), by (go_simp <;> omega), by go_simp, by go_simp, by go_simp, by go_simp⟩, ?_⟩
  clear hK K
  try first | simp only [putA, List.set] | simp only [putN]
  repeat ((first | (apply wpPi_quiet; rfl; rintro W ⟨hW, hlt, hW0, hW1, hW2, hW3⟩; go_simp; with_reducible rfl) | (apply wpPi_off; rfl)); simp only [putA, List.set])
  refine wpPi_nil ?_
  go_wp2
  exact bodyPost_ret (v := omR oo) (by simp [results, Try.results32, go_sem, r0, r1, r2]) rfl ⟨rfl, by ((repeat (first | exact Below.refl _ _ | assumption | refine Below.drew ?_ | refine bDrewN ?_ | refine Below.setCell ?_ ?_ _ | refine Below.alloc ?_ ?_ _)) <;> try (first | omega | (simp <;> omega)))⟩

theorem nhead_any (h : NdAt f N w nb bb cv cfv sv d b) :
    Calls Try.prog 16 #[.pointer (some ⟨nb, 0, none⟩)] w fun e w' => e = .returned (.bool (headB d b)) ∧ Grow w w' := by
  have H := Lib.hid h
  have Hp := Lib.hid (pfirst_any h.pl)
  have hres : headB d b = (d.first && wholeB d b) := rfl
  have hlt := h.lt
  obtain ⟨q1, hq1⟩ : ∃ q, d.first = q := ⟨_, rfl⟩
  obtain ⟨q2, hq2⟩ : ∃ q, wholeB d b = q := ⟨_, rfl⟩
  rw [hres, hq1, hq2]
  rw [hq1] at Hp
  have Hq2 := Lib.hid hq2
  clear h hres hq1 hq2
  go_enter Try.func16, Try.ntmps16
  go_wp2_with fail
  (with_reducible refine Hp.out.mono ?_)
  rintro e w1 ⟨rfl, hg1⟩
  have hl1 := (H.out.grow hg1).lt
  cases q1 with
  | false =>
    go_wp2
    go_ret
    exact ⟨rfl, hg1⟩
  | true =>
    have hw := nwhole_any (H.out.grow hg1)
    rw [Hq2.out] at hw
    have Hw := Lib.hid hw
    clear hw
    go_wp2_with fail
    (with_reducible refine Hw.out.mono ?_)
    rintro e w2 ⟨rfl, hg2⟩
    have Hg := Lib.hid (hg1.trans hg2)
    clear hg1 hg2
    cases q2
    all_goals
      go_wp2
      go_ret
      exact ⟨rfl, Hg.out⟩
end
end Go.Proofs.Ytfchjoejdijjeaa

/- Messages: what they read as; say. -/
namespace Go.Proofs.Ytfchjoejdijjeaa
open Go.RowKit Go.Gl Go.Wal Go.Ch Go.Shelf
section
variable {C : Type} (f : C → List UInt8)
def bodyK : Body C → Nat
  | .entry _ _ => 1
  | .tail _ => 2
  | .whole => 3
  | .state _ _ => 4
def bodyI : Body C → Nat
  | .entry k _ => k
  | .tail k => k
  | .whole => 0
  | .state _ _ => 0
def bodyB : Body C → List UInt8
  | .entry _ c => f c
  | .tail _ => []
  | .whole => []
  | .state a l => saveD f a l
def hdrD (k e i : Nat) : List UInt8 := numD k ++ numD e ++ numD i
def msgD (x : Msg C) : List UInt8 := hdrD (bodyK x.body) x.epoch (bodyI x.body) ++ bytesD (bodyB f x.body)
/-- A message with its bytes' slice. -/
structure Mv (C : Type) where
  x : Msg C
  v : Value
def encM (y : Mv C) : List Value := [.int .i64 (y.x.src : Int), .int .i64 (y.x.dst : Int), y.v]
theorem encM3 (y : Mv C) : (encM y).length = 3 := rfl
/-- The value reads as the messages ms. -/
def MsgR (N : Nat → Prop) (w : World) (v : Value) (ms : List (Msg C)) : Prop :=
  ∃ ys : List (Mv C), ys.map Mv.x = ms ∧ RowR N w v encM 3 ys ∧ ∀ y ∈ ys, Bw N w y.v (msgD f y.x)
/-- A row of messages of one's own. -/
def OwnM (B : Nat) (N : Nat → Prop) (w : World) (v : Value) (ms : List (Msg C)) : Prop :=
  ∃ ys : List (Mv C), ys.map Mv.x = ms ∧ w.ownsRow B 62 3 v ys.length (ys.flatMap encM) ∧ ∀ y ∈ ys, Bw N w y.v (msgD f y.x)
variable {f} {N M : Nat → Prop} {w w' : World} {v : Value} {ms : List (Msg C)}
theorem MsgR.kp (h : MsgR f N w v ms) (k : Kp N w w') : MsgR f N w' v ms := by
  obtain ⟨ys, h1, h2, h3⟩ := h
  exact ⟨ys, h1, h2.kp k, fun y hy => (h3 y hy).kp k⟩
theorem MsgR.grow (h : MsgR f N w v ms) (hg : Grow w w') : MsgR f N w' v ms := h.kp (.ofGrow hg)
theorem MsgR.mono (h : MsgR f N w v ms) (hM : ∀ b, N b → b < w.heap.size → M b) : MsgR f M w v ms := by
  obtain ⟨ys, h1, h2, h3⟩ := h
  exact ⟨ys, h1, h2.mono hM, fun y hy => (h3 y hy).mono hM⟩
theorem MsgR.slice (h : MsgR f N w v ms) : ∃ a c, v = .slice a ms.length c := by
  obtain ⟨ys, h1, h2, h3⟩ := h
  obtain ⟨a, c, h⟩ := h2.slice
  exact ⟨a, c, by rw [h, ← h1, List.length_map]⟩
theorem msgR_nil (N : Nat → Prop) (w : World) : MsgR f N w (.slice none 0 0) [] := ⟨[], rfl, rowR_nil _ _ _ _, fun _ h => by cases h⟩
theorem MsgR.get (h : MsgR f N w v ms) {i : Nat} {x : Msg C} (hx : ms[i]? = some x) :
    ∃ b o c u, v = .slice (some ⟨b, o, none⟩) ms.length c ∧ b < w.heap.size ∧ w.cell? ⟨b, o + i * 3, none⟩ = some (.int .i64 (x.src : Int)) ∧ w.cell? ⟨b, o + i * 3 + 1, none⟩ = some (.int .i64 (x.dst : Int)) ∧ w.cell? ⟨b, o + i * 3 + 2, none⟩ = some u ∧ Bw N w u (msgD f x) := by
  obtain ⟨ys, rfl, h2, h3⟩ := h
  rw [List.getElem?_map] at hx
  cases hy : ys[i]? with
  | none => rw [hy] at hx; cases hx
  | some y =>
    rw [hy] at hx
    cases hx
    obtain ⟨b, o, c, rfl, hN, hb, hr⟩ := h2.addr hy
    exact ⟨b, o, c, y.v, by rw [List.length_map], hb, hr i y hy 0 _ rfl, hr i y hy 1 _ rfl, hr i y hy 2 _ rfl, h3 y (List.mem_of_getElem? hy)⟩
theorem encM_one {N : Nat → Prop} {w : World} {y : Mv C} (h : Bw N w y.v (msgD f y.x)) : ∀ u ∈ encM y, u.oneCell' = true := fun u hu => by
  simp only [encM, List.mem_cons, List.not_mem_nil, or_false] at hu
  rcases hu with rfl | rfl | rfl
  · rfl
  · rfl
  · exact h.one
theorem OwnM.msgR {B : Nat} (h : OwnM f B N w v ms) (hN : ∀ g, v.ownBlock = some g → N g) : MsgR f N w v ms := by
  obtain ⟨ys, h1, h2, h3⟩ := h
  exact ⟨ys, h1, RowR.ofOwns encM3 h2 hN, h3⟩
theorem ownM_nil (B : Nat) (N : Nat → Prop) (w : World) : OwnM f B N w (.slice none 0 0) [] := ⟨[], rfl, World.ownsRow_nil _ _ _ _, fun _ h => by cases h⟩
theorem OwnM.lt {B : Nat} (h : OwnM f B N w v ms) {g : Nat} (hg : v.ownBlock = some g) : B ≤ g ∧ g < w.heap.size ∧ ∃ cur, w.heap[g]? = some (.cells cur 62 (0, 0)) := by
  obtain ⟨ys, h1, h2, h3⟩ := h
  exact owns_lt h2 hg
theorem OwnM.slice {B : Nat} (h : OwnM f B N w v ms) : ∃ a c, v = .slice a ms.length c := by
  obtain ⟨ys, h1, h2, h3⟩ := h
  obtain ⟨a, c, h⟩ := owns_slice h2
  exact ⟨a, c, by rw [h, ← h1, List.length_map]⟩
theorem OwnM.grow {B : Nat} (h : OwnM f B N w v ms) (hg : Grow w w') : OwnM f B N w' v ms := by
  obtain ⟨ys, h1, h2, h3⟩ := h
  exact ⟨ys, h1, owns_grow h2 hg, fun y hy => (h3 y hy).grow hg⟩
theorem Try.infoM : (Try.prog.info? 62).map (fun i => (i.zero, i.size, i.bytes)) = some (some (.agg #[.int .i64 0, .int .i64 0, .slice none 0 0]), 3, 40) := by kernel_rfl

theorem hdr_le (k e i : Nat) : (hdrD k e i).length ≤ 30 := by
  have h1 := numD_len k
  have h2 := numD_len e
  have h3 := numD_len i
  unfold hdrD; simp; omega

theorem run_buildM1 (w : World) (a b : Int) (x : Option Addr) (m n : Nat) : (Instr.buildSlice 41 1 #[(0, .agg #[.int .i64 a, .int .i64 b, .slice x m n])]).run Try.prog w = .ok (.slice (some ⟨w.heap.size, 0, none⟩) 1 1) (w.alloc (.cells #[.int .i64 a, .int .i64 b, .slice x m n] 62)) := by kernel_rfl

variable {nb bb : Nat} {cv cfv sv : Value} {d : Nd} {b : Box C}
def SayPost (w : World) (d : Nd) (n : Nat) (D : List UInt8) (e : Ending) (w' : World) : Prop :=
  ∃ g mv, e = .returned (.slice (some ⟨g, 0, none⟩) 1 1) ∧ w.heap.size ≤ g ∧ w'.heap[g]? = some (.cells #[.int .i64 (d.self : Int), .int .i64 (n : Int), mv] 62 (0, 0)) ∧ Bw (fun x => w.heap.size ≤ x) w' mv D ∧ Grow w w'

theorem say_none (m : Mem) (kv iv pv : Value) (w : World) (rv : Value) :
    Calls Try.prog 33 #[rv, memV m, .bool false, kv, iv, pv] w fun e w' => e = .returned (.slice none 0 0) ∧ Grow w w' := by
  go_enter Try.func33, Try.ntmps33
  go_wp2
  go_ret
  exact ⟨rfl, Grow.alloc _ _⟩

set_option maxRecDepth 100000 in
set_option maxHeartbeats 2000000 in
theorem say_any (h : NdAt f N w nb bb cv cfv sv d b) (m : Mem) {k i : Nat} (hk : k ≤ 100) (hi : i ≤ 1000000000) {pv : Value} {p : List UInt8} (hp : Bv w pv p) (hpl : p.length ≤ 500000000000) :
    Calls Try.prog 33 #[.pointer (some ⟨nb, 0, none⟩), memV m, .bool true, .int .i64 (k : Int), .int .u64 (i : Int), pv] w (SayPost w d m.node (hdrD k d.cfg.epoch i ++ bytesD p)) := by
  obtain ⟨DD, hDD⟩ : ∃ D, hdrD k d.cfg.epoch i ++ bytesD p = D := ⟨_, rfl⟩
  rw [hDD]
  have HDD := Lib.hid hDD
  clear hDD
  have hep := h.ep
  have hsl := h.slf
  have hpl' := h.pl
  have HP := Lib.hid hpl'
  have Hp := Lib.hid hp
  have hg1 : Grow w (w.alloc (.cells #[.int .i64 (m.node : Int), .int .i64 (m.birth : Int), .bool m.whole] 71)) := Grow.alloc _ _
  have hr := heap_alloc_new w (.cells #[.int .i64 (m.node : Int), .int .i64 (m.birth : Int), .bool m.whole] 71)
  have Hr := Lib.hid hr
  have Hg1 := Lib.hid hg1
  have hlt := h.lt
  obtain ⟨pa, pc, rfl⟩ := hp.slice
  have hwk : IntKind.u64.wrap (k : Int) = (k : Int) := by simp [IntKind.wrap, IntKind.bits, IntKind.signed]; omega
  have hwe : IntKind.u64.wrap (d.cfg.epoch : Int) = (d.cfg.epoch : Int) := by simp [IntKind.wrap, IntKind.bits, IntKind.signed]; omega
  clear h hp hg1 hr hpl'
  go_enter Try.func33, Try.ntmps33
  go_upto_region 3 with fail
  generalize w.alloc (.cells #[.int .i64 (m.node : Int), .int .i64 (m.birth : Int), .bool m.whole] 71) = w1 at *
  have HS : Hid (∀ W, Grow w1 W → nb < W.heap.size ∧ W.cell? ⟨nb, 0, none⟩ = some (.int .i64 (d.cfg.epoch : Int)) ∧ W.cell? ⟨nb, 3, none⟩ = some (.int .i64 (d.self : Int)) ∧ W.cell? ⟨w.heap.size, 0, none⟩ = some (.int .i64 (m.node : Int)) ∧ w.heap.size < W.heap.size) := Lib.hid fun W hW => by
    have h1 := (HP.out.grow Hg1.out).grow hW
    have h2 := hW.heap Hr.out
    exact ⟨h1.lt, h1.c0, h1.c3, by simp [World.cell?, h2], lt_of_getElem? h2⟩
  have hnil : Bv w1.drew (.slice none 0 0) [] := (bw_nil (fun _ => True) _).1
  refine wp_region_pi (fun W => nb < W.heap.size ∧ W.cell? ⟨nb, 0, none⟩ = some (.int .i64 (d.cfg.epoch : Int)) ∧ W.cell? ⟨nb, 3, none⟩ = some (.int .i64 (d.self : Int)) ∧ W.cell? ⟨w.heap.size, 0, none⟩ = some (.int .i64 (m.node : Int)) ∧ w.heap.size < W.heap.size) [(0, false), (1, false), (3, false), (4, false), (5, false), (6, false), (7, false), (8, false), (9, false), (11, false), (2, true), (10, true), (12, true), (13, false)] (by kernel_rfl) (by kernel_rfl) (fun c a d v w h => by cases d <;> exact h) (HS.out _ (Grow.drew w1)) ?_
  simp only [arrange, nth]
  repeat ((first | (apply wpPi_quiet; rfl; rintro W ⟨hW, hW0, hW1, hW2, hW3⟩; go_simp; with_reducible rfl) | (apply wpPi_off; rfl)); simp only [putA, List.set])
  refine wpPi_call (by rfl) (by go_simp) (number_any hnil (by simp) (n := k) (by omega)) ?_
  rintro e w2 ⟨v2, rfl, ho2, hg2⟩
  have Hg2 := Lib.hid ((Grow.drew w1).trans hg2)
  refine ⟨_, rfl, HS.out _ Hg2.out, ?_⟩
  clear hg2 hnil
  try first | simp only [putA, List.set] | simp only [putN]
  refine wpPi_call (by rfl) (by go_simp) (number_any (ownB_bv ho2) (by have := numD_len k; simp; omega) (n := d.cfg.epoch) (by omega)) ?_
  rintro e w3 ⟨v3, rfl, ho3, hg3⟩
  have Hg3 := Lib.hid (Hg2.out.trans hg3)
  refine ⟨_, rfl, HS.out _ Hg3.out, ?_⟩
  clear hg3 ho2 Hg2
  try first | simp only [putA, List.set] | simp only [putN]
  refine wpPi_call (by rfl) (by go_simp) (number_any (ownB_bv ho3) (by have := numD_len k; have := numD_len d.cfg.epoch; simp; omega) (n := i) (by omega)) ?_
  rintro e w4 ⟨v4, rfl, ho4, hg4⟩
  have Hg4 := Lib.hid (Hg3.out.trans hg4)
  refine ⟨_, rfl, HS.out _ Hg4.out, ?_⟩
  have hD : OwnB w3.heap.size w4 v4 (hdrD k d.cfg.epoch i) := by unfold hdrD; simpa using ho4
  have HD := Lib.hid hD
  clear hg4 ho3 ho4 hD Hg3
  try first | simp only [putA, List.set] | simp only [putN]
  repeat ((first | (apply wpPi_quiet; rfl; rintro W ⟨hW, hW0, hW1, hW2, hW3⟩; go_simp; with_reducible rfl) | (apply wpPi_off; rfl)); simp only [putA, List.set])
  refine wpPi_nil ?_
  go_wp2_with fail
  refine wp_region_pi (fun W => nb < W.heap.size ∧ W.cell? ⟨nb, 0, none⟩ = some (.int .i64 (d.cfg.epoch : Int)) ∧ W.cell? ⟨nb, 3, none⟩ = some (.int .i64 (d.self : Int)) ∧ W.cell? ⟨w.heap.size, 0, none⟩ = some (.int .i64 (m.node : Int)) ∧ w.heap.size < W.heap.size) [(0, false), (1, false), (2, false), (3, false), (4, false), (5, false), (6, false), (7, false), (8, false), (9, true), (10, true), (11, false), (12, true), (13, false)] (by kernel_rfl) (by kernel_rfl) (fun c a d v w h => by cases d <;> exact h) (HS.out _ (Hg4.out.trans (Grow.drew w4))) ?_
  simp only [arrange, nth]
  repeat ((first | (apply wpPi_quiet; rfl; rintro W ⟨hW, hW0, hW1, hW2, hW3⟩; go_simp; with_reducible rfl) | (apply wpPi_off; rfl)); simp only [putA, List.set])
  have Hgd := Lib.hid (Hg4.out.trans (Grow.drew w4))
  replace HD := Lib.hid (OwnB.bw (N := fun x => w3.heap.size ≤ x) HD.out (fun x h1 _ => h1) |>.grow (Grow.drew w4))
  clear Hg4
  generalize w4.drew = wd at *
  have hgb : Grow wd (wd.alloc (.cells #[.slice pa p.length pc] 28)) := Grow.alloc _ _
  have Hgb := Lib.hid (Hgd.out.trans hgb)
  refine wpPi_run (by rfl) (execOp_buildSlice1 (v := .slice pa p.length pc) rfl Try.underlying32 Try.infoR rfl rfl rfl) (HS.out _ Hgb.out) ?_
  try first | simp only [putA, List.set] | simp only [putN]
  refine wpPi_call (by rfl) (by go_simp) (bytes_any (HD.out.1.grow hgb) (by have := hdr_le k d.cfg.epoch i; omega) (heap_alloc_new wd _) (Hp.out.grow (Hg1.out.trans Hgb.out)) (by omega)) ?_
  rintro e w5 ⟨v5, rfl, ho5, hg5⟩
  have Hg5 := Lib.hid (Hgb.out.trans hg5)
  refine ⟨_, rfl, HS.out _ Hg5.out, ?_⟩
  rw [HDD.out] at ho5
  have H5 := Lib.hid ho5
  obtain ⟨qa, qc, rfl⟩ := ho5.slice
  have hz : w.heap.size ≤ wd.heap.size := (Hg1.out.trans Hgd.out).size
  have hzb : wd.heap.size ≤ (wd.alloc (.cells #[.slice pa p.length pc] 28)).heap.size := hgb.size
  have hz5 : w.heap.size ≤ w5.heap.size := (Hg1.out.trans Hg5.out).size
  clear hg5 HD Hgd Hgb hgb ho5
  try first | simp only [putA, List.set] | simp only [putN]
  repeat ((first | (apply wpPi_quiet; rfl; rintro W ⟨hW, hW0, hW1, hW2, hW3⟩; go_simp; with_reducible rfl) | (apply wpPi_off; rfl)); simp only [putA, List.set])
  have hbm := run_buildM1
  have hga : Grow w5 (w5.alloc (.cells #[.int .i64 (d.self : Int), .int .i64 (m.node : Int), .slice qa DD.length qc] 62)) := Grow.alloc _ _
  have Hga := Lib.hid (Hg5.out.trans hga)
  have hn5 := heap_alloc_new w5 (.cells #[.int .i64 (d.self : Int), .int .i64 (m.node : Int), .slice qa DD.length qc] 62)
  have HP5 : Hid (SayPost w d m.node DD (.returned (.slice (some ⟨w5.heap.size, 0, none⟩) 1 1)) (w5.alloc (.cells #[.int .i64 (d.self : Int), .int .i64 (m.node : Int), .slice qa DD.length qc] 62))) :=
    Lib.hid ⟨_, _, rfl, hz5, hn5, (OwnB.bw (N := fun x => w.heap.size ≤ x) H5.out (fun x h1 _ => by omega)).grow hga, Hg1.out.trans Hga.out⟩
  clear hga hn5
  refine wpPi_act (by rfl) (fun K hK => ?_)
  go_simp
  refine hK _ _ ⟨HS.out _ Hga.out, ?_⟩
  clear hK K
  try first | simp only [putA, List.set] | simp only [putN]
  repeat ((first | (apply wpPi_quiet; rfl; rintro W ⟨hW, hW0, hW1, hW2, hW3⟩; go_simp; with_reducible rfl) | (apply wpPi_off; rfl)); simp only [putA, List.set])
  refine wpPi_nil ?_
  go_wp2
  go_ret
  exact HP5.out
end
end Go.Proofs.Ytfchjoejdijjeaa

/- Rows of messages that are made; done. -/
namespace Go.Proofs.Ytfchjoejdijjeaa
open Go.RowKit Go.Gl Go.Wal Go.Ch Go.Shelf
section
variable {C : Type} (f : C → List UInt8)
/-- A row of messages that was made behind B, their bytes too. -/
def OwnMs (B : Nat) (w : World) (v : Value) (ms : List (Msg C)) : Prop := OwnM f B (fun x => B ≤ x ∧ x < w.heap.size ∧ v.ownBlock ≠ some x) w v ms
variable {f} {w w' w1 : World} {v : Value} {ms : List (Msg C)} {B : Nat}
theorem ownMs_nil (B : Nat) (w : World) : OwnMs f B w (.slice none 0 0) [] := ownM_nil _ _ _
theorem OwnMs.msgR (h : OwnMs f B w v ms) : MsgR f (fun x => B ≤ x) w v ms := by
  obtain ⟨ys, h1, h2, h3⟩ := h
  exact ⟨ys, h1, RowR.ofOwns encM3 h2 (fun g hg => (owns_lt h2 hg).1), fun y hy => (h3 y hy).mono (fun x hx _ => hx.1)⟩
theorem OwnMs.slice (h : OwnMs f B w v ms) : ∃ a c, v = .slice a ms.length c := OwnM.slice h
theorem OwnMs.grow (h : OwnMs f B w v ms) (hg : Grow w w') : OwnMs f B w' v ms := by
  obtain ⟨ys, h1, h2, h3⟩ := OwnM.grow h hg
  exact ⟨ys, h1, h2, fun y hy => (h3 y hy).mono (fun x hx hl => ⟨hx.1, hl, hx.2.2⟩)⟩
theorem OwnMs.low {B' : Nat} (h : OwnMs f B w v ms) (hB : B' ≤ B) : OwnMs f B' w v ms := by
  obtain ⟨ys, h1, h2, h3⟩ := h
  exact ⟨ys, h1, owns_mono h2 hB, fun y hy => (h3 y hy).mono (fun x hx _ => ⟨Nat.le_trans hB hx.1, hx.2⟩)⟩
/-- 'append(l, x)' where x lies in a block. -/
theorem OwnMs.push (h : OwnMs f B w v ms) (hg : Grow w w1) {g : Nat} {x : Msg C} {mv : Value} (hc : w1.heap[g]? = some (.cells #[.int .i64 (x.src : Int), .int .i64 (x.dst : Int), mv] 62 (0, 0))) (hb : Bw (fun y => w.heap.size ≤ y) w1 mv (msgD f x)) (hB : B ≤ w.heap.size) (hl : ms.length ≤ 1000000000) :
    ∃ v' w', (Builtin.append_ #[41, 41] 41 #[v, .slice (some ⟨g, 0, none⟩) 1 1]).run Try.prog w1 = .ok v' w' ∧ OwnMs f B w' v' (ms ++ [x]) ∧ Below B w w' ∧ w1.grownBy w' v.ownBlock := by
  obtain ⟨ys, h1, h2, h3⟩ := h
  have hv : ∀ q, v.ownBlock = some q → q < w.heap.size := fun q hq => (owns_lt h2 hq).2.1
  obtain ⟨i0, hi0, hz0, hz1, hz2⟩ := info_parts Try.infoM
  have hone : ∀ u ∈ ([.int .i64 (x.src : Int), .int .i64 (x.dst : Int), mv] : List Value), u.oneCell' = true := encM_one (y := ⟨x, mv⟩) hb
  have hyl : ys.length = ms.length := by rw [← h1, List.length_map]
  obtain ⟨g', cap, w', hrun, hown, hgr, hgb, hlt⟩ := run_append_lies (P := Try.prog) w1 41 41 B 62 i0 _ 3 40 Try.underlying41 hi0 hz0 hz1 hz2 rfl (by decide) _ _ _ (owns_grow h2 hg)
    ⟨g, 0, none⟩ 1 1 [.int .i64 (x.src : Int), .int .i64 (x.dst : Int), mv] rfl (fun j u hu => World.news_of_block hc j u (by simpa using hu)) hone (by decide) (by unfold maxLen; omega) (by omega) (Nat.le_trans hB hg.size) _ rfl
  have hkp : ∀ (P : Nat → Prop), (∀ q, P q → v.ownBlock ≠ some q) → Kp P w1 w' := fun P hP => Kp.grown hgr (fun q hq hPq => hP q hPq hq)
  have hout : ∀ q, q < w1.heap.size → v.ownBlock ≠ some q → (Value.slice (some ⟨g', 0, none⟩) (ys.length + 1) cap).ownBlock ≠ some q := fun q hq hn e => by
    have e' : g' = q := Option.some.inj e
    subst e'
    rcases hgb with h | h
    · exact hn h
    · exact absurd hq (by rw [h]; exact Nat.lt_irrefl _)
  refine ⟨_, w', hrun, ⟨ys ++ [⟨x, mv⟩], by rw [List.map_append, h1]; rfl, ?_, fun y hy => ?_⟩, ?_, hgr⟩
  · have etc : (ys ++ [(⟨x, mv⟩ : Mv C)]).flatMap encM = ys.flatMap encM ++ [.int .i64 (x.src : Int), .int .i64 (x.dst : Int), mv] := by simp [encM]
    rw [etc, List.length_append]
    exact hown
  · rcases List.mem_append.1 hy with hy | hy
    · have h4 := (((h3 y hy).grow hg).kp (hkp _ (fun q hq => hq.2.2)))
      exact h4.mono (fun q hq hl2 => ⟨hq.1, hl2, hout q (Nat.lt_of_lt_of_le hq.2.1 hg.size) hq.2.2⟩)
    · rw [List.mem_singleton.1 hy]
      have h4 := (hb.mono (M := fun q => w.heap.size ≤ q ∧ q < w1.heap.size) (fun q hq hl2 => ⟨hq, hl2⟩)).kp (hkp _ (fun q hq e => by have := hv q e; omega))
      exact h4.mono (fun q hq hl2 => ⟨Nat.le_trans hB hq.1, hl2, hout q hq.2 (fun e => by have := hv q e; omega)⟩)
  · refine Below.trans (hg.mono hB) ⟨hgr.os, hgr.tape, hgr.output, hgr.size, fun k hk => hgr.block k (by have := hg.size; omega) (fun e => ?_)⟩
    have := (owns_lt h2 e.symm).1; omega

/-- What say makes, as a row. -/
theorem SayPost.own {d : Nd} {n : Nat} {D : List UInt8} {e : Ending} (h : SayPost w d n D e w') {x : Msg C} (hs : x.src = d.self) (hd : x.dst = n) (hD : D = msgD f x) : ∃ v, e = .returned v ∧ OwnMs f w.heap.size w' v [x] ∧ Grow w w' := by
  obtain ⟨g, mv, rfl, hg, hc, hb, hgr⟩ := h
  subst hD hd
  refine ⟨_, rfl, ⟨[⟨x, mv⟩], rfl, ⟨rfl, .inr ⟨g, 1, _, rfl, hg, hc, Nat.le_refl _, by decide, rfl, by simp [encM, hs]⟩⟩, fun y hy => ?_⟩, hgr⟩
  rw [List.mem_singleton.1 hy]
  have hm : mv.ownBlock = some g → msgD f x = [] := fun e => by
    obtain ⟨⟨a, c, rfl, _, _, _, h5⟩, _⟩ := hb
    rcases h5 with h5 | ⟨b, o, rfl, hlt, hcc⟩
    · exact h5
    · cases e
      cases hD : msgD f x with
      | nil => rfl
      | cons q l =>
        exfalso
        have := hcc 0 q (by rw [hD]; rfl)
        rw [Nat.add_zero] at this
        unfold World.cell? at this
        rw [hc] at this
        have h2 : (#[.int .i64 (d.self : Int), .int .i64 (x.dst : Int), .slice (some ⟨b, o, none⟩) (msgD f x).length c] : Array Value)[o]? = some (.int .u8 q.toNat) := by simpa using this
        match o, h2 with
        | 0, h2 => cases h2
        | 1, h2 => cases h2
        | 2, h2 => cases h2
        | o + 3, h2 => cases h2
  obtain ⟨h1, h2⟩ := hb
  refine ⟨h1, ?_⟩
  by_cases h0 : msgD f x = []
  · exact .inl h0
  · rcases h2 with h2 | h2
    · exact absurd h2 h0
    · refine .inr fun b hb' => ⟨h2 b hb', ?_, fun e => ?_⟩
      · obtain ⟨a, c, hv, _, _, _, h5⟩ := h1
        rcases h5 with h5 | ⟨b', o, ha, hlt, _⟩
        · exact absurd h5 h0
        · rw [hv, ha] at hb'; cases hb'; exact hlt
      · cases e; exact h0 (hm hb')

variable {N : Nat → Prop} {nb bb : Nat} {cv cfv sv : Value} {d : Nd} {b : Box C}
theorem say_k (h : NdAt f N w nb bb cv cfv sv d b) (m : Mem) {k i : Nat} {kI iI : Int} (hkI : kI = (k : Int)) (hiI : iI = (i : Int)) (hk : k ≤ 100) (hi : i ≤ 1000000000) {pv : Value} {p : List UInt8} (hp : Bv w pv p) (hpl : p.length ≤ 500000000000) :
    Calls Try.prog 33 #[.pointer (some ⟨nb, 0, none⟩), memV m, .bool true, .int .i64 kI, .int .u64 iI, pv] w (SayPost w d m.node (hdrD k d.cfg.epoch i ++ bytesD p)) := by
  subst hkI hiI
  exact say_any h m hk hi hp hpl
set_option maxRecDepth 100000 in
theorem ndone_any (h : NdAt f N w nb bb cv cfv sv d b) {i : Nat} (hi : i ≤ 1000000000) :
    Calls Try.prog 54 #[.pointer (some ⟨nb, 0, none⟩), .int .u64 (i : Int)] w fun e w' => ∃ v, e = .returned v ∧ OwnMs f w.heap.size w' v (doneM d i : List (Msg C)) ∧ Grow w w' := by
  have H := Lib.hid h
  obtain ⟨M, hM⟩ : ∃ M, d.ahead.getD zeroM = M := ⟨_, rfl⟩
  obtain ⟨ss, hss⟩ : ∃ s, d.ahead.isSome = s := ⟨_, rfl⟩
  have Hp := Lib.hid (om_split (nahead_any h) hM hss)
  have hres : (doneM d i : List (Msg C)) = if ss = true then [⟨d.self, M.node, d.cfg.epoch, .tail i⟩] else [] := by
    unfold doneM sayM
    cases ho : d.ahead with
    | none => rw [ho] at hss; cases hss; rfl
    | some m => rw [ho] at hss hM; cases hss; cases hM; rfl
  rw [hres]
  have hlt := h.lt
  clear h hres hM hss
  go_enter Try.func54, Try.ntmps54
  go_wp2_with fail
  (with_reducible refine Hp.out.mono ?_)
  rintro e w1 ⟨rfl, hg1⟩
  have hga : Grow w1 (w1.alloc (.cells #[.int .i64 (M.node : Int), .int .i64 (M.birth : Int), .bool M.whole] 71)) := Grow.alloc _ _
  have Hg1 := Lib.hid (hg1.trans hga)
  have hn := H.out.grow Hg1.out
  cases ss with
  | false =>
    have Hs := Lib.hid (say_none M (.int .i64 2) (.int .u64 (i : Int)) (.slice none 0 0) (w1.alloc (.cells #[.int .i64 (M.node : Int), .int .i64 (M.birth : Int), .bool M.whole] 71)) (.pointer (some ⟨nb, 0, none⟩)))
    clear Hp hga hn hg1
    go_wp2_with fail
    (with_reducible refine Hs.out.mono ?_)
    rintro e w2 ⟨rfl, hg2⟩
    have Hg := Lib.hid (Hg1.out.trans hg2)
    clear hg2 Hs
    go_wp2
    go_ret
    exact ⟨_, rfl, ownMs_nil _ _, Hg.out⟩
  | true =>
    have Hs := Lib.hid (say_k hn M (k := 2) (kI := 2) rfl rfl (by decide) hi (bw_nil (fun _ => True) _).1 (by simp))
    clear Hp hga hn hg1
    go_wp2_with fail
    (with_reducible refine Hs.out.mono ?_)
    rintro e w2 hs
    obtain ⟨v, rfl, ho, hg2⟩ := hs.own (f := f) (x := ⟨d.self, M.node, d.cfg.epoch, .tail i⟩) rfl rfl rfl
    have Ho : Hid (OwnMs f w.heap.size w2 v [⟨d.self, M.node, d.cfg.epoch, .tail i⟩]) := Lib.hid (ho.low Hg1.out.size)
    have Hg := Lib.hid (Hg1.out.trans hg2)
    obtain ⟨va, vc, rfl⟩ := ho.slice
    clear hg2 Hs ho hs
    go_wp2
    go_ret
    exact ⟨_, rfl, Ho.out, Hg.out⟩
end
end Go.Proofs.Ytfchjoejdijjeaa

/- Commits: what they read as; rows of them that are made. -/
namespace Go.Proofs.Ytfchjoejdijjeaa
open Go.RowKit Go.Gl Go.Wal Go.Ch Go.Shelf
section
variable {C : Type} (f : C → List UInt8)
/-- A commit with its slices. -/
structure Kv (C : Type) where
  x : Com C
  cv : Value
  av : Value
def encC (y : Kv C) : List Value := [.int .u64 (y.x.idx : Int), y.cv, y.av]
theorem encC3 (y : Kv C) : (encC y).length = 3 := rfl
def ansD (x : Com C) : List UInt8 := if x.ans = true then did ++ f x.cmd else []
def GoodC (N : Nat → Prop) (w : World) (y : Kv C) : Prop := Bw N w y.cv (f y.x.cmd) ∧ Bw N w y.av (ansD f y.x)
/-- The value reads as the commits cs. -/
def ComR (N : Nat → Prop) (w : World) (v : Value) (cs : List (Com C)) : Prop :=
  ∃ ys : List (Kv C), ys.map Kv.x = cs ∧ RowR N w v encC 3 ys ∧ ∀ y ∈ ys, GoodC f N w y
/-- A row of commits that was made behind B, their bytes too. -/
def OwnCs (B : Nat) (w : World) (v : Value) (cs : List (Com C)) : Prop :=
  ∃ ys : List (Kv C), ys.map Kv.x = cs ∧ w.ownsRow B 86 3 v ys.length (ys.flatMap encC) ∧ ∀ y ∈ ys, GoodC f (fun x => B ≤ x ∧ x < w.heap.size ∧ v.ownBlock ≠ some x) w y
variable {f} {N M : Nat → Prop} {w w' w1 : World} {v : Value} {cs : List (Com C)} {B : Nat}
theorem GoodC.kp {y : Kv C} (h : GoodC f N w y) (k : Kp N w w') : GoodC f N w' y := ⟨h.1.kp k, h.2.kp k⟩
theorem GoodC.mono {y : Kv C} (h : GoodC f N w y) (hM : ∀ b, N b → b < w.heap.size → M b) : GoodC f M w y := ⟨h.1.mono hM, h.2.mono hM⟩
theorem GoodC.one {y : Kv C} (h : GoodC f N w y) : ∀ u ∈ encC y, u.oneCell' = true := fun u hu => by
  simp only [encC, List.mem_cons, List.not_mem_nil, or_false] at hu
  rcases hu with rfl | rfl | rfl
  · rfl
  · exact h.1.one
  · exact h.2.one
theorem ComR.kp (h : ComR f N w v cs) (k : Kp N w w') : ComR f N w' v cs := by
  obtain ⟨ys, h1, h2, h3⟩ := h
  exact ⟨ys, h1, h2.kp k, fun y hy => (h3 y hy).kp k⟩
theorem ComR.grow (h : ComR f N w v cs) (hg : Grow w w') : ComR f N w' v cs := h.kp (.ofGrow hg)
theorem ComR.mono (h : ComR f N w v cs) (hM : ∀ b, N b → b < w.heap.size → M b) : ComR f M w v cs := by
  obtain ⟨ys, h1, h2, h3⟩ := h
  exact ⟨ys, h1, h2.mono hM, fun y hy => (h3 y hy).mono hM⟩
theorem ComR.slice (h : ComR f N w v cs) : ∃ a c, v = .slice a cs.length c := by
  obtain ⟨ys, h1, h2, h3⟩ := h
  obtain ⟨a, c, h⟩ := h2.slice
  exact ⟨a, c, by rw [h, ← h1, List.length_map]⟩
theorem comR_nil (N : Nat → Prop) (w : World) : ComR f N w (.slice none 0 0) [] := ⟨[], rfl, rowR_nil _ _ _ _, fun _ h => by cases h⟩
theorem ComR.get (h : ComR f N w v cs) {i : Nat} {x : Com C} (hx : cs[i]? = some x) :
    ∃ b o c u q, v = .slice (some ⟨b, o, none⟩) cs.length c ∧ b < w.heap.size ∧ w.cell? ⟨b, o + i * 3, none⟩ = some (.int .u64 (x.idx : Int)) ∧ w.cell? ⟨b, o + i * 3 + 1, none⟩ = some u ∧ w.cell? ⟨b, o + i * 3 + 2, none⟩ = some q ∧ Bw N w u (f x.cmd) ∧ Bw N w q (ansD f x) := by
  obtain ⟨ys, rfl, h2, h3⟩ := h
  rw [List.getElem?_map] at hx
  cases hy : ys[i]? with
  | none => rw [hy] at hx; cases hx
  | some y =>
    rw [hy] at hx
    cases hx
    obtain ⟨b, o, c, rfl, hN, hb, hr⟩ := h2.addr hy
    have := h3 y (List.mem_of_getElem? hy)
    exact ⟨b, o, c, y.cv, y.av, by rw [List.length_map], hb, hr i y hy 0 _ rfl, hr i y hy 1 _ rfl, hr i y hy 2 _ rfl, this.1, this.2⟩
theorem Try.infoC : (Try.prog.info? 86).map (fun i => (i.zero, i.size, i.bytes)) = some (some (.agg #[.int .u64 0, .slice none 0 0, .slice none 0 0]), 3, 56) := by kernel_rfl
theorem ownCs_nil (B : Nat) (w : World) : OwnCs f B w (.slice none 0 0) [] := ⟨[], rfl, World.ownsRow_nil _ _ _ _, fun _ h => by cases h⟩
theorem OwnCs.comR (h : OwnCs f B w v cs) : ComR f (fun x => B ≤ x) w v cs := by
  obtain ⟨ys, h1, h2, h3⟩ := h
  exact ⟨ys, h1, RowR.ofOwns encC3 h2 (fun g hg => (owns_lt h2 hg).1), fun y hy => (h3 y hy).mono (fun x hx _ => hx.1)⟩
theorem OwnCs.slice (h : OwnCs f B w v cs) : ∃ a c, v = .slice a cs.length c := by
  obtain ⟨ys, h1, h2, h3⟩ := h
  obtain ⟨a, c, h⟩ := owns_slice h2
  exact ⟨a, c, by rw [h, ← h1, List.length_map]⟩
theorem run_buildC1 (w : World) (a : Int) (x y : Option Addr) (m n p q : Nat) : (Instr.buildSlice 66 1 #[(0, .agg #[.int .u64 a, .slice x m n, .slice y p q])]).run Try.prog w = .ok (.slice (some ⟨w.heap.size, 0, none⟩) 1 1) (w.alloc (.cells #[.int .u64 a, .slice x m n, .slice y p q] 86)) := by kernel_rfl

/-- 'append(l, Commit{..})'. -/
theorem OwnCs.push (h : OwnCs f B w v cs) (hg : Grow w w1) {x : Com C} {cv av : Value} (hb : GoodC f (fun y => w.heap.size ≤ y) w1 ⟨x, cv, av⟩) (hB : B ≤ w.heap.size) (hl : cs.length ≤ 1000000000) :
    ∃ v' w', (Builtin.append_ #[66, 66] 66 #[v, .slice (some ⟨w1.heap.size, 0, none⟩) 1 1]).run Try.prog (w1.alloc (.cells #[.int .u64 (x.idx : Int), cv, av] 86)) = .ok v' w' ∧ OwnCs f B w' v' (cs ++ [x]) ∧ Below B w w' := by
  obtain ⟨ys, h1, h2, h3⟩ := h
  have hv : ∀ q, v.ownBlock = some q → q < w.heap.size := fun q hq => (owns_lt h2 hq).2.1
  have hyl : ys.length = cs.length := by rw [← h1, List.length_map]
  obtain ⟨g', cap, w', hrun, hown, hgr, hgb⟩ := append_el (P := Try.prog) (w := w1) Try.underlying66 Try.infoC rfl (by decide) (owns_grow h2 hg) (es := encC ⟨x, cv, av⟩) rfl hb.one (Nat.le_trans hB hg.size) (by omega) (by decide)
  have hkp : ∀ (P : Nat → Prop), (∀ q, P q → v.ownBlock ≠ some q) → Kp P w1 w' := fun P hP => Kp.grown hgr (fun q hq hPq => hP q hPq hq)
  have hout : ∀ q, q < w1.heap.size → v.ownBlock ≠ some q → (Value.slice (some ⟨g', 0, none⟩) (ys.length + 1) cap).ownBlock ≠ some q := fun q hq hn e => by
    have e' : g' = q := Option.some.inj e
    subst e'
    rcases hgb with h | h
    · exact hn h
    · omega
  refine ⟨_, w', hrun, ⟨ys ++ [⟨x, cv, av⟩], by rw [List.map_append, h1]; rfl, ?_, fun y hy => ?_⟩, ?_⟩
  · have etc : (ys ++ [(⟨x, cv, av⟩ : Kv C)]).flatMap encC = ys.flatMap encC ++ encC ⟨x, cv, av⟩ := by simp
    rw [etc, List.length_append]
    exact hown
  · rcases List.mem_append.1 hy with hy | hy
    · have h4 := (((h3 y hy).kp (.ofGrow hg)).kp (hkp _ (fun q hq => hq.2.2)))
      exact h4.mono (fun q hq hl2 => ⟨hq.1, hl2, hout q (Nat.lt_of_lt_of_le hq.2.1 hg.size) hq.2.2⟩)
    · rw [List.mem_singleton.1 hy]
      have h4 := (hb.mono (M := fun q => w.heap.size ≤ q ∧ q < w1.heap.size) (fun q hq hl2 => ⟨hq, hl2⟩)).kp (hkp _ (fun q hq e => by have := hv q e; omega))
      exact h4.mono (fun q hq hl2 => ⟨Nat.le_trans hB hq.1, hl2, hout q hq.2 (fun e => by have := hv q e; omega)⟩)
  · refine Below.trans (hg.mono hB) ⟨hgr.os, hgr.tape, hgr.output, hgr.size, fun k hk => hgr.block k (by have := hg.size; omega) (fun e => ?_)⟩
    have := (owns_lt h2 e.symm).1; omega
end
end Go.Proofs.Ytfchjoejdijjeaa
