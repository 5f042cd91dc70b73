/- Merged out of EN, EO: helpers. -/
import Derived.Test.YtfchjoejdijjeaaCP
set_option linter.unusedSimpArgs false
set_option linter.unusedVariables false
/- A node: Receive whole. -/
namespace Go.Proofs.Ytfchjoejdijjeaa
open Go.RowKit Go.Gl Go.Wal Go.Ch Go.Shelf
section
variable {C : Type} {f : C → List UInt8} {N : Nat → Prop} {w : World} {nb bb : Nat} {cv cfv sv : Value} {d : Nd} {b : Box C}
/-- A message that a node may get. -/
def MsgOk (x : Msg C) : Prop := x.epoch ≤ 1099511627776 ∧ (match x.body with | .entry k _ => k ≤ 1000000 | .tail k => k ≤ 1000000 | .whole => True | .state a l => l.length ≤ 100000 ∧ a ≤ l.length)
theorem nreceive_any (h : NdAt f N w nb bb cv cfv sv d b) (hf : ∀ c, (f c).length ≤ 1048576) (hl : b.cmds.length < 99999) {x : Msg C} {mv : Value} (hmv : Bw N w mv (msgD f x)) (hx : MsgOk x) :
    Calls Try.prog 31 #[.pointer (some ⟨nb, 0, none⟩), .agg #[.int .i64 (x.src : Int), .int .i64 (x.dst : Int), mv]] w (OutPost f N w nb bb cv (recvM d b x)) := by
  obtain ⟨src, dst, ep, body⟩ := x
  obtain ⟨hep, hb⟩ := hx
  unfold recvM
  simp only at hep hb ⊢
  by_cases hg : (!decide (dst = d.self) || !d.has || !decide (ep = d.cfg.epoch) || !d.member.isSome) = true
  · rw [if_pos hg]
    cases body with
    | entry k c => exact recv_gate (kd := 1) (ix := k) (p := f c) h hmv (by decide) (by decide) hep (by simp only at hb; omega) (by have := hf c; omega) hg
    | tail k => exact recv_gate (kd := 2) (ix := k) (p := []) h hmv (by decide) (by decide) hep (by simp only at hb; omega) (by decide) hg
    | whole => exact recv_gate (kd := 3) (ix := 0) (p := []) h hmv (by decide) (by decide) hep (by decide) (by decide) hg
    | state a l => exact recv_gate (kd := 4) (ix := 0) (p := saveD f a l) h hmv (by decide) (by decide) hep (by decide) (by have := save_len hf a hb.1; omega) hg
  · rw [if_neg hg]
    simp only [Bool.or_eq_true, Bool.not_eq_true', decide_eq_false_iff_not, not_or, Decidable.not_not, Bool.not_eq_false] at hg
    obtain ⟨⟨⟨h1, h2⟩, h3⟩, h4⟩ := hg
    cases body with
    | entry k c => exact recv_entry h hf hl hmv hep hb h1 h2 h3 h4
    | tail k => exact recv_tail h hmv hep hb h1 h2 h3 h4
    | whole => exact recv_whole h hmv hep h1 h2 h3 h4
    | state a l => exact recv_state h hf hb.1 hb.2 hmv hep h1 h2 h3 h4
end
end Go.Proofs.Ytfchjoejdijjeaa

/- A node: Config. -/
namespace Go.Proofs.Ytfchjoejdijjeaa
open Go.RowKit Go.Gl Go.Wal Go.Ch Go.Shelf
section
variable {C : Type} {f : C → List UInt8} {N : Nat → Prop} {w : World} {nb bb : Nat} {cv cfv sv : Value} {d : Nd} {b : Box C}
theorem results_cell1 {fn : Func} {p : Tmp} {ty : TypeId} (h : fn.results = #[.cell p ty]) (tmps : Array Value) (P : Program) (w : World) :
    (results fn tmps).run P w = ((asAddr (tmps.getD p undef)).run P w).andThen fun a w₁ => (loadVar ty a).run P w₁ := by
  simp only [results, h]
  simp [Sem.run_bind, Result.andThen]
set_option maxRecDepth 100000 in
set_option maxHeartbeats 4000000 in
/-- Config: the law reads its epoch alone. -/
theorem nconfig_any (h : NdAt f N w nb bb cv cfv sv d b) :
    Calls Try.prog 25 #[.pointer (some ⟨nb, 0, none⟩)] w fun e w' => ∃ x y, e = .returned (cfgV d.cfg.epoch x y) ∧ Grow w w' := by
  have H := Lib.hid h
  have hpl := h.pl
  have k0 := hpl.c0
  have k1 := hpl.c1
  have k2 := hpl.c2
  have hl := h.lt
  obtain ⟨da, dc, rfl⟩ := h.cfg.chain.slice
  obtain ⟨ea, ec, rfl⟩ := h.cfg.stores.slice
  clear h hpl
  go_enter Try.func25, Try.ntmps25
  go_upto_region 2 with fail
  have hg0 : Grow w ((w.alloc (.cells #[.int .i64 0, .slice none 0 0, .slice none 0 0] 59)).alloc (.cells #[.int .i64 (d.cfg.epoch : Int), .slice da d.cfg.chain.length dc, .slice ea d.cfg.stores.length ec] 59)) := (Grow.alloc _ _).trans (Grow.alloc _ _)
  have hb0 := (Grow.alloc _ (.cells #[.int .i64 (d.cfg.epoch : Int), .slice da d.cfg.chain.length dc, .slice ea d.cfg.stores.length ec] 59)).heap (heap_alloc_new w (.cells #[.int .i64 0, .slice none 0 0, .slice none 0 0] 59))
  have hb1 := heap_alloc_new (w.alloc (.cells #[.int .i64 0, .slice none 0 0, .slice none 0 0] 59)) (.cells #[.int .i64 (d.cfg.epoch : Int), .slice da d.cfg.chain.length dc, .slice ea d.cfg.stores.length ec] 59)
  rw [show (w.alloc (.cells #[.int .i64 0, .slice none 0 0, .slice none 0 0] 59)).heap.size = w.heap.size + 1 by simp] at hb1
  generalize (w.alloc (.cells #[.int .i64 0, .slice none 0 0, .slice none 0 0] 59)).alloc (.cells #[.int .i64 (d.cfg.epoch : Int), .slice da d.cfg.chain.length dc, .slice ea d.cfg.stores.length ec] 59) = w1 at *
  obtain ⟨r, hr⟩ : ∃ r, r = w.heap.size := ⟨_, rfl⟩
  obtain ⟨q, hq⟩ : ∃ q, q = w.heap.size + 1 := ⟨_, rfl⟩
  rw [← hq] at hb1 ⊢
  rw [← hr] at hb0 ⊢
  have Hg0 := Lib.hid hg0
  have Hb0 := Lib.hid hb0
  have Hb1 := Lib.hid hb1
  have Hr := Lib.hid hr
  have Hq := Lib.hid hq
  clear hg0 hb0 hb1 k0 k1 k2 hl hr hq
  have HS : Hid (∀ W, Grow w1 W → q < W.heap.size ∧ W.cell? ⟨q, 1, none⟩ = some (.slice da d.cfg.chain.length dc) ∧ W.cell? ⟨q, 2, none⟩ = some (.slice ea d.cfg.stores.length ec)) := Lib.hid fun W hW => by
    have h2 := hW.heap Hb1.out
    exact ⟨lt_of_getElem? h2, by simp [World.cell?, h2], by simp [World.cell?, h2]⟩
  refine wp_region_late (fun W => q < W.heap.size ∧ W.cell? ⟨q, 1, none⟩ = some (.slice da d.cfg.chain.length dc) ∧ W.cell? ⟨q, 2, none⟩ = some (.slice ea d.cfg.stores.length ec))
    [(0, false), (1, false), (3, false), (4, false), (2, true), (6, false), (5, true)] [7, 8, 9] #[true, true, true, true, true, true, true, false, false, false] 3 (by kernel_rfl) (by kernel_rfl) (fun c a d v w h => by cases d <;> exact h) (HS.out _ (Grow.drew w1)) ?_
  simp only [arrange, nth]
  repeat ((first | (apply wpPi_quiet; rfl; rintro W ⟨hl0, hW0, hW1⟩; go_simp; with_reducible rfl) | (apply wpPi_off; rfl)); simp only [putA, List.set])
  refine wpPi_call (by rfl) (by go_simp) (cloneM_any ((H.out.grow (Hg0.out.trans (Grow.drew w1))).cfg.chain) (by have := H.out.cfg.small; omega)) ?_
  rintro e w6 ⟨ncv, rfl, hncv, hg6⟩
  have Hg6 := Lib.hid ((Grow.drew w1).trans hg6)
  refine ⟨_, rfl, HS.out _ Hg6.out, ?_⟩
  clear hg6
  obtain ⟨na, nc, rfl⟩ := hncv.slice
  clear hncv
  try first | simp only [putA, List.set] | simp only [putN]
  repeat ((first | (apply wpPi_quiet; rfl; rintro W ⟨hl0, hW0, hW1⟩; go_simp; with_reducible rfl) | (apply wpPi_off; rfl)); simp only [putA, List.set])
  refine wpPi_call (by rfl) (by go_simp) (cloneI_any ((H.out.grow (Hg0.out.trans Hg6.out)).cfg.stores) (by have := H.out.cfg.few; omega)) ?_
  rintro e w7 ⟨nsv, rfl, hnsv, hg7⟩
  have Hg7 := Lib.hid (Hg6.out.trans hg7)
  refine ⟨_, rfl, HS.out _ Hg7.out, ?_⟩
  obtain ⟨oa, oc, rfl⟩ := hnsv.slice
  clear hnsv hg7 Hg6
  try first | simp only [putA, List.set] | simp only [putN]
  refine wpPi_nil ?_
  have hb7 := Hg7.out.heap Hb1.out
  have r1 : w7.cell? ⟨q, 1, none⟩ = some (.slice da d.cfg.chain.length dc) := by simp [World.cell?, hb7]
  have r2 : w7.cell? ⟨q, 2, none⟩ = some (.slice ea d.cfg.stores.length ec) := by simp [World.cell?, hb7]
  have f1 := frz hb7 1
  have f2 := frz hb7 2
  have lq : q < w7.heap.size := lt_of_getElem? hb7
  refine lateQ_act (i := 7) (by kernel_rfl) rfl (by rfl) (fun K hK => ?_)
  go_simp
  refine hK _ _ ?_
  clear hK K
  try first | simp only [putA, List.set] | simp only [putN]
  refine lateQ_act (i := 8) (by kernel_rfl) rfl (by rfl) (fun K hK => ?_)
  go_simp
  refine hK _ _ ?_
  clear hK K
  try first | simp only [putA, List.set] | simp only [putN]
  refine lateQ_act (i := 9) (by kernel_rfl) rfl (by rfl) (fun K hK => ?_)
  go_simp
  refine hK _ _ ?_
  clear hK K
  try first | simp only [putA, List.set] | simp only [putN]
  refine lateQ_nil (by kernel_rfl) ?_
  have hb8 := setCell_heap (setCell_heap hb7 1 (.slice na d.cfg.chain.length nc)) 2 (.slice oa d.cfg.stores.length oc)
  have hb8' : ((w7.setCell ⟨q, 1, none⟩ (.slice na d.cfg.chain.length nc)).setCell ⟨q, 2, none⟩ (.slice oa d.cfg.stores.length oc)).heap[q]? = some (.cells #[.int .i64 (d.cfg.epoch : Int), .slice na d.cfg.chain.length nc, .slice oa d.cfg.stores.length oc] 59 (0, 0)) := by simpa using hb8
  have hg8 : Grow w ((w7.setCell ⟨q, 1, none⟩ (.slice na d.cfg.chain.length nc)).setCell ⟨q, 2, none⟩ (.slice oa d.cfg.stores.length oc)) := ((Hg0.out.trans Hg7.out).setCell (p := ⟨q, 1, none⟩) (by have := Hq.out; show w.heap.size ≤ q; omega) _).setCell (p := ⟨q, 2, none⟩) (by have := Hq.out; show w.heap.size ≤ q; omega) _
  have hr8 : ((w7.setCell ⟨q, 1, none⟩ (.slice na d.cfg.chain.length nc)).setCell ⟨q, 2, none⟩ (.slice oa d.cfg.stores.length oc)).heap[r]? = some (.cells #[.int .i64 0, .slice none 0 0, .slice none 0 0] 59 (0, 0)) := by
    have hne : r ≠ q := by have := Hq.out; have := Hr.out; omega
    rw [Below.heap_setCell _ _ _ _ hne, Below.heap_setCell _ _ _ _ hne]
    exact Hg7.out.heap Hb0.out
  clear hb8 r1 r2 f1 f2 lq hb7 HS Hg7 Hb0 Hb1 Hg0
  generalize (w7.setCell ⟨q, 1, none⟩ (.slice na d.cfg.chain.length nc)).setCell ⟨q, 2, none⟩ (.slice oa d.cfg.stores.length oc) = w8 at *
  have r0 : w8.cell? ⟨q, 0, none⟩ = some (.int .i64 (d.cfg.epoch : Int)) := by simp [World.cell?, hb8']
  have r1 : w8.cell? ⟨q, 1, none⟩ = some (.slice na d.cfg.chain.length nc) := by simp [World.cell?, hb8']
  have r2 : w8.cell? ⟨q, 2, none⟩ = some (.slice oa d.cfg.stores.length oc) := by simp [World.cell?, hb8']
  have lq : q < w8.heap.size := lt_of_getElem? hb8'
  have lr : r < w8.heap.size := lt_of_getElem? hr8
  have s0 : w8.cell? ⟨r, 0, none⟩ = some (.int .i64 0) := by simp [World.cell?, hr8]
  have s1 : w8.cell? ⟨r, 1, none⟩ = some (.slice none 0 0) := by simp [World.cell?, hr8]
  have s2 : w8.cell? ⟨r, 2, none⟩ = some (.slice none 0 0) := by simp [World.cell?, hr8]
  have g0 := frz hr8 0
  have g1 := frz hr8 1
  have g2 := frz hr8 2
  have Hg9 := Lib.hid (((hg8.setCell (p := ⟨r, 0, none⟩) (by have := Hr.out; show w.heap.size ≤ r; omega) (.int .i64 (d.cfg.epoch : Int))).setCell (p := ⟨r, 1, none⟩) (by have := Hr.out; show w.heap.size ≤ r; omega) (.slice na d.cfg.chain.length nc)).setCell (p := ⟨r, 2, none⟩) (by have := Hr.out; show w.heap.size ≤ r; omega) (.slice oa d.cfg.stores.length oc))
  have hfin := setCell_heap (setCell_heap (setCell_heap hr8 0 (.int .i64 (d.cfg.epoch : Int))) 1 (.slice na d.cfg.chain.length nc)) 2 (.slice oa d.cfg.stores.length oc)
  have Hf : Hid (∀ W, W = ((w8.setCell ⟨r, 0, none⟩ (.int .i64 (d.cfg.epoch : Int))).setCell ⟨r, 1, none⟩ (.slice na d.cfg.chain.length nc)).setCell ⟨r, 2, none⟩ (.slice oa d.cfg.stores.length oc) → r < W.heap.size ∧ W.cell? ⟨r, 0, none⟩ = some (.int .i64 (d.cfg.epoch : Int)) ∧ W.cell? ⟨r, 1, none⟩ = some (.slice na d.cfg.chain.length nc) ∧ W.cell? ⟨r, 2, none⟩ = some (.slice oa d.cfg.stores.length oc)) := Lib.hid fun W hW => by
    rw [← hW] at hfin
    exact ⟨lt_of_getElem? hfin, by simp [World.cell?, hfin], by simp [World.cell?, hfin], by simp [World.cell?, hfin]⟩
  have Hlen := Lib.hid hfin
  clear hfin hb8' hr8 hg8
  go_wp2
  obtain ⟨wf, hwf⟩ : ∃ W, W = ((w8.setCell ⟨r, 0, none⟩ (.int .i64 (d.cfg.epoch : Int))).setCell ⟨r, 1, none⟩ (.slice na d.cfg.chain.length nc)).setCell ⟨r, 2, none⟩ (.slice oa d.cfg.stores.length oc) := ⟨_, rfl⟩
  obtain ⟨f0, f1, f2, f3⟩ := Hf.out wf hwf
  have Hg10 := Hg9.out
  rw [← hwf] at Hg10
  try rw [← hwf]
  clear Hg9 Hf hwf r0 r1 r2 lq lr s0 s1 s2 g0 g1 g2
  refine bodyPost_ret (v := cfgV d.cfg.epoch (.slice na d.cfg.chain.length nc) (.slice oa d.cfg.stores.length oc)) ?_ rfl ⟨_, _, rfl, Hg10⟩
  rw [results_cell1 rfl]
  go_simp
end
end Go.Proofs.Ytfchjoejdijjeaa
