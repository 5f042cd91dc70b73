/- One act on both nets: Clear, Tick, and what is no act. -/
import Derived.Test.YtbanfilgokideaaT3
namespace Go.Proofs.Ytbanfilgokideaa
open Go.RowKit Go.Gl

theorem RefAt.other {B : Nat} {w : World} {q : Nat} {nodes bound time : Int} {v : Value} {L : List RM} (h : RefAt B w q nodes bound time v L) {b0 i : Nat} {arr : Array Value} {t : TypeId} {f : Nat × Nat} (hb : w.heap[b0]? = some (.cells arr t f)) (ht : t ≠ 61 ∧ t ≠ 31 ∧ t ≠ 5) (x : Value) :
    RefAt B (w.setCell ⟨b0, i, none⟩ x) q nodes bound time v L := by
  rw [setCell_setO hb]
  have hne : ∀ {b : Nat} {arr' : Array Value} {t' : TypeId} {f' : Nat × Nat}, w.heap[b]? = some (.cells arr' t' f') → t ≠ t' → b ≠ b0 := fun h1 h2 e => by
    rw [e, hb] at h1; cases h1; exact h2 rfl
  refine ⟨?_, ⟨h.own.1, ?_⟩, fun m hm => ?_, h.base, by simpa [setO] using h.room⟩
  · rw [setO_other (hne h.self ht.1)]; exact h.self
  · rcases h.own.2 with h1 | ⟨g, cap, cur, h1, h2, h3, h4⟩
    · exact .inl h1
    · exact .inr ⟨g, cap, cur, h1, h2, by rw [setO_other (hne h3 ht.2.1)]; exact h3, h4⟩
  · rcases h.msg m hm with h1 | ⟨b, c, arr', h1, h2, h3⟩
    · exact .inl h1
    · exact .inr ⟨b, c, arr', h1, by rw [setO_other (hne h2 ht.2.2)]; exact h2, h3⟩

theorem RefAt.tick {B : Nat} {w : World} {q : Nat} {nodes bound time : Int} {v : Value} {L : List RM} (h : RefAt B w q nodes bound time v L) (n : Int) :
    RefAt B (w.setCell ⟨q, 2, none⟩ (.int .i64 n)) q nodes bound n v L := by
  rw [setCell_setO h.self]
  have hne : ∀ {b : Nat} {arr' : Array Value} {t' : TypeId} {f' : Nat × Nat}, w.heap[b]? = some (.cells arr' t' f') → t' ≠ 61 → b ≠ q := fun h1 h2 e => by
    rw [e, h.self] at h1; cases h1; exact h2 rfl
  refine ⟨setO_same (lt_of_getElem? h.self), ⟨h.own.1, ?_⟩, fun m hm => ?_, h.base, by simpa [setO] using h.room⟩
  · rcases h.own.2 with h1 | ⟨g, cap, cur, h1, h2, h3, h4⟩
    · exact .inl h1
    · exact .inr ⟨g, cap, cur, h1, h2, by rw [setO_other (hne h3 (by decide))]; exact h3, h4⟩
  · rcases h.msg m hm with h1 | ⟨b, c, arr', h1, h2, h3⟩
    · exact .inl h1
    · exact .inr ⟨b, c, arr', h1, by rw [setO_other (hne h2 (by decide))]; exact h2, h3⟩

theorem NetAt.tick {B : Nat} {w : World} {p r : Nat} {nodes bound now : Int} {gs : List Bag} (h : NetAt B w p r nodes bound now gs) (n : Int) :
    NetAt B (w.setCell ⟨p, 2, none⟩ (.int .i64 n)) p r nodes bound n gs := by
  rw [setCell_setO h.self]
  have hne : ∀ {b : Nat} {arr' : Array Value} {t' : TypeId} {f' : Nat × Nat}, w.heap[b]? = some (.cells arr' t' f') → t' ≠ 49 → b ≠ p := fun h1 h2 e => by
    rw [e, h.self] at h1; cases h1; exact h2 rfl
  obtain ⟨c, hm, hborn⟩ := h.map
  have hrp : r ≠ p := fun e => by
    have h1 : w.heap[r]? = _ := hm
    rw [e, h.self] at h1; cases h1
  refine ⟨setO_same (lt_of_getElem? h.self), ⟨c, ?_, hborn⟩, h.keys, h.borns, h.rows, fun g hg => ⟨⟨(h.bags g hg).own.1, ?_⟩, fun m hm => ?_⟩, h.base, by simpa [setO] using h.room⟩
  · show (setO w p _).heap[r]? = _
    rw [setO_other hrp]; exact hm
  · rcases (h.bags g hg).own.2 with h1 | ⟨g', cap, cur, h1, h2, h3, h4⟩
    · exact .inl h1
    · exact .inr ⟨g', cap, cur, h1, h2, by rw [setO_other (hne h3 (by decide))]; exact h3, h4⟩
  · rcases (h.bags g hg).msg m hm with h1 | ⟨b, c, arr', h1, h2, h3⟩
    · exact .inl h1
    · exact .inr ⟨b, c, arr', h1, by rw [setO_other (hne h2 (by decide))]; exact h2, h3⟩

set_option maxRecDepth 100000 in
set_option maxHeartbeats 4000000 in
theorem step_clear {B : Nat} {w : World} {p r q : Nat} {nodes bound now : Int} {gs : List Bag} {v : Value} {L : List RM} (h : St B w p r q nodes bound now gs v L) (frm to pick : Int) (ta : Option Addr) (tn tc : Nat) (ba : Option Addr) (bn bc : Nat) :
    Calls Try.prog 15 #[.pointer (some ⟨p, 0, none⟩), .pointer (some ⟨q, 0, none⟩), .agg (actCells 5 frm to pick ta tn tc ba bn bc)] w (StepPost B w p r q nodes bound now L) := by
  have hbox := heap_alloc_new w (.cells (actCells 5 frm to pick ta tn tc ba bn bc) 39)
  have hg0 : Grow w (w.alloc (.cells (actCells 5 frm to pick ta tn tc ba bn bc) 39)) := Grow.alloc _ _
  have H := Lib.hid (h.grow hg0)
  have Hg0 := Lib.hid hg0
  have Hroom := Lib.hid h.net.room
  obtain ⟨c0, c1, c2, c3, c4, c5⟩ := box_cells hbox
  have Hbox := Lib.hid hbox
  clear h hg0 hbox
  go_enter Try.func15, Try.ntmps15
  go_wp2_with fail
  generalize w.alloc (.cells (actCells 5 frm to pick ta tn tc ba bn bc) 39) = W0 at *
  (with_reducible refine (clear_any H.out.net frm).mono ?_)
  rintro e w1 ⟨rfl, hK1, gs1, hN1, hV1⟩
  have hbx1 := hK1.hard _ _ Hbox.out (not_softN (by decide) _ _)
  clear c0 c1 c2 c3 c4 c5
  obtain ⟨c0, c1, c2, c3, c4, c5⟩ := box_cells hbx1
  have l1 := lt_of_getElem? hbx1
  have HK1 := Lib.hid hK1
  have HN1 := Lib.hid hN1
  have HV1 := Lib.hid hV1
  have HR1 := Lib.hid (H.out.ref.keepN hK1)
  clear hbx1 hK1 hN1 hV1
  go_wp2_with fail
  (with_reducible refine (rclear_any HR1.out (by have := H.out.len; omega) frm).mono ?_)
  rintro e w2 ⟨rfl, hKq, v2, hR2⟩
  have Hfin : Hid (StepPost B w p r q nodes bound now L (.returned (.bool true)) w2) := Lib.hid ⟨rfl, now, gs1, v2, offL frm L, HN1.out.same (NetSame.keepQ HR1.out.self hKq), hR2, by rw [HV1.out]; exact H.out.cpl.clear frm, by have : (offL frm L).length ≤ L.length := List.length_filter_le _ _; omega, H.out.t0, by omega, (Hg0.out.mono Hroom.out).trans (HK1.out.below.trans hKq.1)⟩
  clear hKq hR2
  go_wp2
  go_ret
  exact Hfin.out

set_option maxRecDepth 100000 in
set_option maxHeartbeats 4000000 in
theorem step_other {B : Nat} {w : World} {p r q : Nat} {nodes bound now : Int} {gs : List Bag} {v : Value} {L : List RM} (h : St B w p r q nodes bound now gs v L) (op frm to pick : Int) (ta : Option Addr) (tn tc : Nat) (ba : Option Addr) (bn bc : Nat) (h1 : op ≠ 1) (h2 : op ≠ 2) (h3 : op ≠ 3) (h4 : op ≠ 4) (h5 : op ≠ 5) (h6 : op ≠ 6) :
    Calls Try.prog 15 #[.pointer (some ⟨p, 0, none⟩), .pointer (some ⟨q, 0, none⟩), .agg (actCells op frm to pick ta tn tc ba bn bc)] w (StepPost B w p r q nodes bound now L) := by
  have hbox := heap_alloc_new w (.cells (actCells op frm to pick ta tn tc ba bn bc) 39)
  have hg0 : Grow w (w.alloc (.cells (actCells op frm to pick ta tn tc ba bn bc) 39)) := Grow.alloc _ _
  have Hfin : Hid (StepPost B w p r q nodes bound now L (.returned (.bool true)) (w.alloc (.cells (actCells op frm to pick ta tn tc ba bn bc) 39))) := Lib.hid (by
    have hS3 := h.grow hg0
    exact ⟨rfl, now, gs, v, L, hS3.net, hS3.ref, hS3.cpl, by omega, hS3.t0, by omega, hg0.mono h.net.room⟩)
  obtain ⟨c0, c1, c2, c3, c4, c5⟩ := box_cells hbox
  have e1 : (op == 1) = false := by simpa using h1
  have e2 : (op == 2) = false := by simpa using h2
  have e3 : (op == 3) = false := by simpa using h3
  have e4 : (op == 4) = false := by simpa using h4
  have e5 : (op == 5) = false := by simpa using h5
  have e6 : (op == 6) = false := by simpa using h6
  clear h hg0 hbox h1 h2 h3 h4 h5 h6
  go_enter Try.func15, Try.ntmps15
  go_wp2
  go_ret
  exact Hfin.out

set_option maxRecDepth 100000 in
set_option maxHeartbeats 4000000 in
theorem step_tick {B : Nat} {w : World} {p r q : Nat} {nodes bound now : Int} {gs : List Bag} {v : Value} {L : List RM} (h : St B w p r q nodes bound now gs v L) (frm to pick : Int) (ta : Option Addr) (tn tc : Nat) (ba : Option Addr) (bn bc : Nat) :
    Calls Try.prog 15 #[.pointer (some ⟨p, 0, none⟩), .pointer (some ⟨q, 0, none⟩), .agg (actCells 6 frm to pick ta tn tc ba bn bc)] w (StepPost B w p r q nodes bound now L) := by
  have hbox := heap_alloc_new w (.cells (actCells 6 frm to pick ta tn tc ba bn bc) 39)
  have hg0 : Grow w (w.alloc (.cells (actCells 6 frm to pick ta tn tc ba bn bc) 39)) := Grow.alloc _ _
  have hS := h.grow hg0
  obtain ⟨k0, k1, k2, k3⟩ := hS.ref.cells
  have hq := lt_of_getElem? hS.ref.self
  have hfq : (w.alloc (.cells (actCells 6 frm to pick ta tn tc ba bn bc) 39)).frozen? ⟨q, 2, none⟩ = false := by simp [World.frozen?, hS.ref.self]
  have H := Lib.hid hS
  have Hg0 := Lib.hid hg0
  have Hroom := Lib.hid h.net.room
  obtain ⟨c0, c1, c2, c3, c4, c5⟩ := box_cells hbox
  have t0 := h.t0
  have t1 := h.t1
  have hw : IntKind.i64.wrap (now + 1) = now + 1 := IntWalk.i64_in _ (by omega)
  clear h hg0 hbox hS k0 k1 k3
  go_enter Try.func15, Try.ntmps15
  go_wp2_with fail
  generalize w.alloc (.cells (actCells 6 frm to pick ta tn tc ba bn bc) 39) = W0 at *
  have hN1 := (H.out.net.same (NetSame.setCell (NetSame.refl _) (.int .i64 (now + 1)) H.out.ref.self (i := 2) (by decide))).grow (Grow.drew _)
  have hR1 := (H.out.ref.tick (now + 1)).grow (Grow.drew _)
  have hb1 : Below B W0 (W0.setCell ⟨q, 2, none⟩ (.int .i64 (now + 1))).drew := ((Below.refl B W0).setCell (by exact H.out.ref.base) _).drew
  generalize (W0.setCell ⟨q, 2, none⟩ (.int .i64 (now + 1))) = W1 at *
  have k4 := hR1.cells.2.2.1
  refine wp_region_pi (fun W => W.cell? ⟨q, 2, none⟩ = some (.int .i64 (now + 1))) [(0, false), (2, false), (3, false), (4, false), (5, false), (1, true), (6, false), (7, false)] (by kernel_rfl) (by kernel_rfl) (fun c a d v w h => by cases d <;> exact h) k4 ?_
  simp only [arrange, nth]
  clear k2 k4 hfq
  repeat (first | (refine wpPi_quiet (v := ?_) (by rfl) (fun W hW => ?_) ?_; rotate_left; (obtain h1 := hW; go_simp; with_reducible rfl); simp only [Act.put, List.setIfInBounds_toArray, List.set_cons_zero, List.set_cons_succ]) | (refine wpPi_off (by rfl) ?_; simp only [Act.put, List.setIfInBounds_toArray, List.set_cons_zero, List.set_cons_succ]))
  have hR2 := hR1.other hN1.self (i := 2) (by decide) (.int .i64 (now + 1))
  have hN2 := hN1.tick (now + 1)
  refine wpPi_call (by rfl) (by go_simp) (tick_run hN1 t0 (by omega)) ?_
  rintro e w2 ⟨rfl, rfl⟩
  refine ⟨_, rfl, hR2.cells.2.2.1, ?_⟩
  try simp only [Act.put, List.setIfInBounds_toArray, List.set_cons_zero, List.set_cons_succ]
  have Hfin : Hid (StepPost B w p r q nodes bound now L (.returned (.bool true)) (W1.drew.setCell ⟨p, 2, none⟩ (.int .i64 (now + 1)))) := Lib.hid ⟨rfl, now + 1, gs, v, L, hN2, hR2, H.out.cpl, by omega, by omega, by omega, (Hg0.out.mono Hroom.out).trans (hb1.setCell (by exact H.out.pB) _)⟩
  have hne : (now + 1 == now + 1) = true := by simp
  clear hR1 hN1 hb1 hR2 hN2
  repeat (first | (refine wpPi_quiet (v := ?_) (by rfl) (fun W hW => ?_) ?_; rotate_left; (obtain h1 := hW; go_simp; with_reducible rfl); simp only [Act.put, List.setIfInBounds_toArray, List.set_cons_zero, List.set_cons_succ]) | (refine wpPi_off (by rfl) ?_; simp only [Act.put, List.setIfInBounds_toArray, List.set_cons_zero, List.set_cons_succ]))
  refine wpPi_nil ?_
  go_wp2
  go_ret
  exact Hfin.out

theorem step_any {B : Nat} {w : World} {p r q : Nat} {nodes bound now : Int} {gs : List Bag} {v : Value} {L : List RM} (h : St B w p r q nodes bound now gs v L) (op frm to pick : Int) (hpk : pick ≤ 9223372036854775807) (ta : Option Addr) (tn tc : Nat) (ba : Option Addr) (bn bc : Nat)
    (bs : List UInt8) (hb : BytesA w (.slice ba bn bc) bs) (hbf : ∀ b, blk (.slice ba bn bc) = some b → bs ≠ [] → b < B) (hbl : bs.length ≤ 1000) {w0 : World} (hw0 : Below B w0 w) {ks : List Int} (ht : Ints w0 (.slice ta tn tc) ks) (hB : w0.heap.size ≤ B) (hks : ks.length ≤ 100) :
    Calls Try.prog 15 #[.pointer (some ⟨p, 0, none⟩), .pointer (some ⟨q, 0, none⟩), .agg (actCells op frm to pick ta tn tc ba bn bc)] w (StepPost B w p r q nodes bound now L) := by
  by_cases h1 : op = 1
  · subst h1; exact step_send h frm to pick ta tn tc ba bn bc bs hb hbf hbl hw0 ht hB hks
  by_cases h2 : op = 2
  · subst h2
    by_cases h0 : (msgsAt (frm, to) gs).length = 0
    · exact step_deliver_none h frm to pick hpk ta tn tc ba bn bc h0
    · exact step_deliver_some h frm to pick hpk ta tn tc ba bn bc h0
  by_cases h3 : op = 3
  · subst h3
    by_cases h0 : (msgsAt (frm, to) gs).length = 0
    · exact step_drop_none h frm to pick hpk ta tn tc ba bn bc h0
    · exact step_drop_some h frm to pick hpk ta tn tc ba bn bc h0
  by_cases h4 : op = 4
  · subst h4
    by_cases h0 : (msgsAt (frm, to) gs).length = 0
    · exact step_double_none h frm to pick hpk ta tn tc ba bn bc h0
    · by_cases hf : ((msgsAt (frm, to) gs).length : Int) = bound
      · exact step_double_full h frm to pick hpk ta tn tc ba bn bc h0 hf
      · exact step_double_yes h frm to pick hpk ta tn tc ba bn bc h0 hf
  by_cases h5 : op = 5
  · subst h5; exact step_clear h frm to pick ta tn tc ba bn bc
  by_cases h6 : op = 6
  · subst h6; exact step_tick h frm to pick ta tn tc ba bn bc
  exact step_other h op frm to pick ta tn tc ba bn bc h1 h2 h3 h4 h5 h6
end Go.Proofs.Ytbanfilgokideaa
