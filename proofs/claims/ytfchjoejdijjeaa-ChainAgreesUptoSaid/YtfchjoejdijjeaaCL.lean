/- Merged out of EE: helpers. -/
import Derived.Test.YtfchjoejdijjeaaCK
set_option linter.unusedSimpArgs false
set_option linter.unusedVariables false
/- A node: a message is taken in. -/
namespace Go.Proofs.Ytfchjoejdijjeaa
open Go.RowKit Go.Gl Go.Wal Go.Ch Go.Shelf
section
variable {C : Type} {f : C → List UInt8} {N : Nat → Prop} {w w' w1 : World} {nb bb : Nat} {cv cfv sv : Value} {d : Nd} {b : Box C}

/-- The locals of Receive: what came in, what it says. -/
structure RcW (w W : World) (sb src dst kd ep ix : Nat) (mv v : Value) : Prop where
  x : W.heap[w.heap.size]? = some (.cells #[.int .i64 (src : Int), .int .i64 (dst : Int), mv] 62 (0, 0))
  s : W.heap[sb]? = some (.cells #[.int .i64 (kd : Int), .int .i64 (ep : Int), .int .u64 (ix : Int), v] 108 (0, 0))
theorem RcW.grow {W W' : World} {sb src dst kd ep ix : Nat} {mv v : Value} (h : RcW w W sb src dst kd ep ix mv v) (hg : Grow W W') : RcW w W' sb src dst kd ep ix mv v := ⟨hg.heap h.x, hg.heap h.s⟩
theorem RcW.xc {W : World} {sb src dst kd ep ix : Nat} {mv v : Value} (h : RcW w W sb src dst kd ep ix mv v) : w.heap.size < W.heap.size ∧ W.cell? ⟨w.heap.size, 0, none⟩ = some (.int .i64 (src : Int)) ∧ W.cell? ⟨w.heap.size, 1, none⟩ = some (.int .i64 (dst : Int)) := by
  have := h.x
  exact ⟨lt_of_getElem? this, by simp [World.cell?, this], by simp [World.cell?, this]⟩
theorem RcW.sc {W : World} {sb src dst kd ep ix : Nat} {mv v : Value} (h : RcW w W sb src dst kd ep ix mv v) : sb < W.heap.size ∧ W.cell? ⟨sb, 0, none⟩ = some (.int .i64 (kd : Int)) ∧ W.cell? ⟨sb, 1, none⟩ = some (.int .i64 (ep : Int)) ∧ W.cell? ⟨sb, 2, none⟩ = some (.int .u64 (ix : Int)) ∧ W.cell? ⟨sb, 3, none⟩ = some v := by
  have := h.s
  exact ⟨lt_of_getElem? this, by simp [World.cell?, this], by simp [World.cell?, this], by simp [World.cell?, this], by simp [World.cell?, this]⟩
theorem mem_cells {W : World} {g : Nat} {mn mb : Int} {mw : Bool} (h : W.heap[g]? = some (.cells #[.int .i64 mn, .int .i64 mb, .bool mw] 71 (0, 0))) : g < W.heap.size ∧ W.cell? ⟨g, 0, none⟩ = some (.int .i64 mn) :=
  ⟨lt_of_getElem? h, by simp [World.cell?, h]⟩

set_option maxRecDepth 100000 in
set_option maxHeartbeats 8000000 in
theorem recv_gate (h : NdAt f N w nb bb cv cfv sv d b) {src dst kd ep ix : Nat} {p : List UInt8} {mv : Value} (hmv : Bw N w mv (hdrD kd ep ix ++ bytesD p)) (hk1 : 1 ≤ kd) (hk4 : kd ≤ 4) (hep : ep ≤ 1099511627776) (hix : ix ≤ 1000000000) (hp : p.length ≤ 500000000000) (hgate : (!decide (dst = d.self) || !d.has || !decide (ep = d.cfg.epoch) || !d.member.isSome) = true) :
    Calls Try.prog 31 #[.pointer (some ⟨nb, 0, none⟩), .agg #[.int .i64 (src : Int), .int .i64 (dst : Int), mv]] w (OutPost f N w nb bb cv ⟨d, b, [], []⟩) := by
  have H := Lib.hid h
  have hgx : Grow w (w.alloc (.cells #[.int .i64 (src : Int), .int .i64 (dst : Int), mv] 62)) := Grow.alloc _ _
  have Hx := Lib.hid (heap_alloc_new w (.cells #[.int .i64 (src : Int), .int .i64 (dst : Int), mv] 62))
  have Hgx := Lib.hid hgx
  have Hrd := Lib.hid (read_any (hmv.1.grow hgx) hk1 hk4 hep hix hp)
  obtain ⟨ML, hML⟩ : ∃ n, (hdrD kd ep ix ++ bytesD p).length = n := ⟨_, rfl⟩
  obtain ⟨ma, mc, rfl⟩ := hmv.slice
  rw [hML] at Hx Hgx Hrd ⊢
  obtain ⟨PM, hPM⟩ : ∃ M, d.member.getD zeroM = M := ⟨_, rfl⟩
  obtain ⟨own, hown⟩ : ∃ s, d.member.isSome = s := ⟨_, rfl⟩
  have Hpm := Lib.hid hPM
  have Hown := Lib.hid hown
  clear h hmv hML hPM hown hgx
  rw [Hown.out] at hgate
  go_enter Try.func31, Try.ntmps31
  go_wp2_with fail
  (with_reducible refine Hrd.out.mono ?_)
  rintro e w2 ⟨v, rfl, hv, hg2⟩
  have hgs : Grow w2 (w2.alloc (.cells #[.int .i64 (kd : Int), .int .i64 (ep : Int), .int .u64 (ix : Int), v] 108)) := Grow.alloc _ _
  have hrc : RcW w (w2.alloc (.cells #[.int .i64 (kd : Int), .int .i64 (ep : Int), .int .u64 (ix : Int), v] 108)) w2.heap.size src dst kd ep ix (.slice ma ML mc) v := ⟨(hg2.trans hgs).heap Hx.out, heap_alloc_new w2 _⟩
  have Hrc := Lib.hid hrc
  have Hg3 := Lib.hid ((Hgx.out.trans hg2).trans hgs)
  have Hv := Lib.hid (hv.bw (N := fun x => w.heap.size ≤ x) (fun x h1 _ => Nat.le_trans Hgx.out.size h1) |>.grow hgs)
  obtain ⟨va, vc, rfl⟩ := hv.slice
  have hn3 := H.out.grow Hg3.out
  have hl3 := hn3.lt
  have Hm := Lib.hid (om_split (pmember_any hn3.pl) Hpm.out Hown.out)
  clear hv hg2 hgs hrc Hrd hn3 Hx Hgx
  go_wp2_with fail
  generalize w2.heap.size = sb at *
  (with_reducible refine Hm.out.mono ?_)
  rintro e w4 ⟨rfl, hg4⟩
  have hgm := hg4.trans (Grow.alloc w4 (.cells #[.int .i64 (PM.node : Int), .int .i64 (PM.birth : Int), .bool PM.whole] 71))
  have Hrc5 := Lib.hid (Hrc.out.grow hgm)
  have Hg5 := Lib.hid (Hg3.out.trans hgm)
  have Hv5 := Lib.hid (Hv.out.grow hgm)
  clear hgm hg4 Hm Hg3 Hrc Hv
  go_upto_region 3 with fail
  generalize w4.alloc (.cells #[.int .i64 (PM.node : Int), .int .i64 (PM.birth : Int), .bool PM.whole] 71) = w5 at *
  have hn5 := H.out.grow Hg5.out
  obtain ⟨lx, x0, x1⟩ := Hrc5.out.xc
  obtain ⟨ls, s0, s1, s2, s3⟩ := Hrc5.out.sc
  have k0 := hn5.pl.c0
  have k3 := hn5.pl.c3
  have k5 := hn5.pl.c5
  have l5 := hn5.lt
  clear hn5

  obtain ⟨b1, hb1⟩ : ∃ q, ((dst : Int) != (d.self : Int)) = q := ⟨_, rfl⟩
  obtain ⟨b2, hb2⟩ : ∃ q, d.has = q := ⟨_, rfl⟩
  obtain ⟨b3, hb3⟩ : ∃ q, ((ep : Int) != (d.cfg.epoch : Int)) = q := ⟨_, rfl⟩
  have e1 : (!decide (dst = d.self)) = b1 := by rw [← hb1]; by_cases h : dst = d.self <;> simp [h]; omega
  have e3 : (!decide (ep = d.cfg.epoch)) = b3 := by rw [← hb3]; by_cases h : ep = d.cfg.epoch <;> simp [h]; omega
  rw [e1, hb2, e3] at hgate
  rw [hb2] at k5
  have Hgd := Lib.hid (OutPost.same H.out (Hg5.out.trans (Grow.drew w5)))
  clear e1 e3
  refine wp_region_row (fun W => W = w5.drew) [] (by kernel_rfl) (fun c a d v w h => by cases d <;> exact h) rfl ?_
  simp only [inRow]
  cases b1 <;> cases b2 <;> cases b3 <;> cases own
  all_goals first | (exfalso; revert hgate; decide) | skip
  all_goals
    clear hgate
    repeat ((first | (apply wpPi_quiet; rfl; rintro W rfl; go_simp; with_reducible rfl) | (apply wpPi_off; rfl)); simp only [putA, List.set])
    refine wpPi_nil ?_
    go_wp2
    go_ret2
    exact Hgd.out
end
end Go.Proofs.Ytfchjoejdijjeaa
