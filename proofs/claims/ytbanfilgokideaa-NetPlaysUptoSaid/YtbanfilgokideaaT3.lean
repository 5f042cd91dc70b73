/- One act on both nets: Drop, Double. -/
import Derived.Test.YtbanfilgokideaaT2
namespace Go.Proofs.Ytbanfilgokideaa
open Go.RowKit Go.Gl

set_option maxRecDepth 100000 in
set_option maxHeartbeats 4000000 in
theorem step_drop_none {B : Nat} {w : World} {p r q : Nat} {nodes bound now : Int} {gs : List Bag} {v : Value} {L : List RM} (h : St B w p r q nodes bound now gs v L) (frm to pick : Int) (hpk : pick ≤ 9223372036854775807) (ta : Option Addr) (tn tc : Nat) (ba : Option Addr) (bn bc : Nat) (h0 : (msgsAt (frm, to) gs).length = 0) :
    Calls Try.prog 15 #[.pointer (some ⟨p, 0, none⟩), .pointer (some ⟨q, 0, none⟩), .agg (actCells 3 frm to pick ta tn tc ba bn bc)] w (StepPost B w p r q nodes bound now L) := by
  have hbox := heap_alloc_new w (.cells (actCells 3 frm to pick ta tn tc ba bn bc) 39)
  have hg0 : Grow w (w.alloc (.cells (actCells 3 frm to pick ta tn tc ba bn bc) 39)) := Grow.alloc _ _
  have hln : (msgsAt (frm, to) gs).length = (ofL (frm, to) L).length := by rw [msgsAt_view]; exact h.cpl.len _
  have hmx : (msgsAt (frm, to) gs).length < 1000000000 := by
    rw [msgsAt_view]
    have := look_le_tot (frm, to) (vw gs)
    rw [h.cpl.tot] at this
    have := h.len
    omega
  have H := Lib.hid (h.grow hg0)
  have Hg0 := Lib.hid hg0
  have Hroom := Lib.hid h.net.room
  obtain ⟨c0, c1, c2, c3, c4, c5⟩ := box_cells hbox
  have Hbox := Lib.hid hbox
  have Hln := Lib.hid hln
  have Hmx := Lib.hid hmx
  have hoL : ofL (frm, to) L = [] := List.eq_nil_of_length_eq_zero (by omega)
  have H0 := Lib.hid h0
  have HoL := Lib.hid hoL
  clear h hg0 hbox hln hmx h0 hoL
  go_enter Try.func15, Try.ntmps15
  go_wp2_with fail
  generalize w.alloc (.cells (actCells 3 frm to pick ta tn tc ba bn bc) 39) = W0 at *
  (with_reducible refine (rdeliver_any H.out.ref (by have := H.out.len; omega) frm to pick hpk).mono ?_)
  rintro e w1 (⟨_, rfl, hg1⟩ | ⟨i, m, _, _, _, hpos, _⟩)
  · have hbx1 := hg1.heap Hbox.out
    clear c0 c1 c2 c3 c4 c5
    obtain ⟨c0, c1, c2, c3, c4, c5⟩ := box_cells hbx1
    have l1 := lt_of_getElem? hbx1
    have Hg1 := Lib.hid hg1
    clear hbx1 hg1
    go_wp2_with fail
    have hga : Grow w1 (w1.alloc (.cells #[.int .i64 0, .int .i64 0, .slice none 0 0] 31)) := Grow.alloc _ _
    have hS1 := (H.out.grow Hg1.out).grow hga
    have Hga := Lib.hid hga
    have HS1 := Lib.hid hS1
    clear hga hS1
    (with_reducible refine (drop_none HS1.out.net frm to pick H0.out).mono ?_)
    rintro e w2 ⟨rfl, hg2⟩
    have Hg2 := Lib.hid hg2
    clear hg2
    go_wp2
    go_ret
    have hall : Grow W0 w2 := (Hg1.out.trans Hga.out).trans Hg2.out
    have hS3 := H.out.grow hall
    exact ⟨rfl, now, gs, v, L, hS3.net, hS3.ref, hS3.cpl, by omega, hS3.t0, by omega, (Hg0.out.trans hall).mono Hroom.out⟩
  · rw [HoL.out] at hpos; cases hpos

set_option maxRecDepth 100000 in
set_option maxHeartbeats 4000000 in
theorem step_drop_some {B : Nat} {w : World} {p r q : Nat} {nodes bound now : Int} {gs : List Bag} {v : Value} {L : List RM} (h : St B w p r q nodes bound now gs v L) (frm to pick : Int) (hpk : pick ≤ 9223372036854775807) (ta : Option Addr) (tn tc : Nat) (ba : Option Addr) (bn bc : Nat) (h0 : (msgsAt (frm, to) gs).length ≠ 0) :
    Calls Try.prog 15 #[.pointer (some ⟨p, 0, none⟩), .pointer (some ⟨q, 0, none⟩), .agg (actCells 3 frm to pick ta tn tc ba bn bc)] w (StepPost B w p r q nodes bound now L) := by
  have hbox := heap_alloc_new w (.cells (actCells 3 frm to pick ta tn tc ba bn bc) 39)
  have hg0 : Grow w (w.alloc (.cells (actCells 3 frm to pick ta tn tc ba bn bc) 39)) := Grow.alloc _ _
  have hln : (msgsAt (frm, to) gs).length = (ofL (frm, to) L).length := by rw [msgsAt_view]; exact h.cpl.len _
  have hmx : (msgsAt (frm, to) gs).length < 1000000000 := by
    rw [msgsAt_view]
    have := look_le_tot (frm, to) (vw gs)
    rw [h.cpl.tot] at this
    have := h.len
    omega
  have H := Lib.hid (h.grow hg0)
  have Hg0 := Lib.hid hg0
  have Hroom := Lib.hid h.net.room
  obtain ⟨c0, c1, c2, c3, c4, c5⟩ := box_cells hbox
  have Hbox := Lib.hid hbox
  have Hln := Lib.hid hln
  have Hmx := Lib.hid hmx
  have hoL : (ofL (frm, to) L).length ≠ 0 := by omega
  obtain ⟨j, hj, hjlt⟩ := pick_at h0 pick
  obtain ⟨m, hm⟩ : ∃ m, (msgsAt (frm, to) gs)[j]? = some m := ⟨(msgsAt (frm, to) gs)[j], by simp [hjlt]⟩
  have Hj := Lib.hid hj
  have Hm := Lib.hid hm
  have HoL := Lib.hid hoL
  have H0 := Lib.hid h0
  clear h hg0 hbox hln hmx h0 hoL hj hjlt hm
  go_enter Try.func15, Try.ntmps15
  go_wp2_with fail
  generalize w.alloc (.cells (actCells 3 frm to pick ta tn tc ba bn bc) 39) = W0 at *
  (with_reducible refine (rdeliver_any H.out.ref (by have := H.out.len; omega) frm to pick hpk).mono ?_)
  rintro e w1 (⟨hoe, _⟩ | ⟨i, x, hx, hxf, hxt, hpos, hpick, rfl, hKq, v2, hR2⟩)
  · exact absurd (by rw [hoe]; rfl) HoL.out
  · have hij : (ofL (frm, to) (L.take i)).length = j := by
      have h1 := Hj.out
      rw [Hln.out] at h1
      omega
    have hxo : OBytes 5 w1 x.val x.bytes := oBytes_keepQ (H.out.ref.msg x (List.mem_of_getElem? hx)) H.out.ref.self hKq
    obtain ⟨xa, xl, xc, hxv⟩ := oBytes_slice hxo
    rw [hxv]
    have hbx1 : w1.heap[w.heap.size]? = some (.cells (actCells 3 frm to pick ta tn tc ba bn bc) 39 (0, 0)) := hKq.2 _ _ Hbox.out (fun e => by have h1 := Hbox.out; rw [e, H.out.ref.self] at h1; cases h1)
    have hN1 := H.out.net.same (NetSame.keepQ H.out.ref.self hKq)
    have hC := H.out.cpl.take hx
    rw [hxf, hxt, hij] at hC
    have hlen : (L.eraseIdx i).length ≤ L.length := (List.eraseIdx_sublist L i).length_le
    clear c0 c1 c2 c3 c4 c5
    obtain ⟨c0, c1, c2, c3, c4, c5⟩ := box_cells hbx1
    have l1 := lt_of_getElem? hbx1
    have Hbel : Hid (Below B W0 w1) := Lib.hid hKq.1
    have HN1 := Lib.hid hN1
    have HC := Lib.hid hC
    have HR2 := Lib.hid hR2
    have Hlen := Lib.hid hlen
    clear hKq hN1 hC hR2 hxo hx hxf hxt hpos hpick hij hlen hbx1 hxv
    go_wp2_with fail
    have hga : Grow w1 (w1.alloc (.cells #[.int .i64 frm, .int .i64 to, .slice xa xl xc] 31)) := Grow.alloc _ _
    have Hga := Lib.hid hga
    clear hga
    (with_reducible refine (drop_some (HN1.out.grow Hga.out) (full_of_all H.out.cpl.full) frm to pick Hmx.out j Hj.out m Hm.out).mono ?_)
    rintro e w2 ⟨rfl, hK2, gs2, hN2, hV2⟩
    have Hfin : Hid (StepPost B w p r q nodes bound now L (.returned (.bool true)) w2) := Lib.hid ⟨rfl, now, gs2, v2, L.eraseIdx i, hN2, (HR2.out.grow Hga.out).keepN hK2, by rw [hV2]; exact HC.out, by have := Hlen.out; omega, H.out.t0, by omega, (Hg0.out.mono Hroom.out).trans (Hbel.out.trans ((Hga.out.mono HN1.out.room).trans hK2.below))⟩
    clear hK2 hN2 hV2
    go_wp2
    go_ret
    exact Hfin.out

set_option maxRecDepth 100000 in
set_option maxHeartbeats 4000000 in
theorem step_double_none {B : Nat} {w : World} {p r q : Nat} {nodes bound now : Int} {gs : List Bag} {v : Value} {L : List RM} (h : St B w p r q nodes bound now gs v L) (frm to pick : Int) (hpk : pick ≤ 9223372036854775807) (ta : Option Addr) (tn tc : Nat) (ba : Option Addr) (bn bc : Nat) (h0 : (msgsAt (frm, to) gs).length = 0) :
    Calls Try.prog 15 #[.pointer (some ⟨p, 0, none⟩), .pointer (some ⟨q, 0, none⟩), .agg (actCells 4 frm to pick ta tn tc ba bn bc)] w (StepPost B w p r q nodes bound now L) := by
  have hbox := heap_alloc_new w (.cells (actCells 4 frm to pick ta tn tc ba bn bc) 39)
  have hg0 : Grow w (w.alloc (.cells (actCells 4 frm to pick ta tn tc ba bn bc) 39)) := Grow.alloc _ _
  have hln : (msgsAt (frm, to) gs).length = (ofL (frm, to) L).length := by rw [msgsAt_view]; exact h.cpl.len _
  have hmx : (msgsAt (frm, to) gs).length < 1000000000 := by
    rw [msgsAt_view]
    have := look_le_tot (frm, to) (vw gs)
    rw [h.cpl.tot] at this
    have := h.len
    omega
  have H := Lib.hid (h.grow hg0)
  have Hg0 := Lib.hid hg0
  have Hroom := Lib.hid h.net.room
  obtain ⟨c0, c1, c2, c3, c4, c5⟩ := box_cells hbox
  have Hbox := Lib.hid hbox
  have Hln := Lib.hid hln
  have Hmx := Lib.hid hmx
  have hoL : ofL (frm, to) L = [] := List.eq_nil_of_length_eq_zero (by omega)
  have H0 := Lib.hid h0
  have HoL := Lib.hid hoL
  clear h hg0 hbox hln hmx h0 hoL
  go_enter Try.func15, Try.ntmps15
  go_wp2_with fail
  generalize w.alloc (.cells (actCells 4 frm to pick ta tn tc ba bn bc) 39) = W0 at *
  have hS : ∀ W, (∃ soft, ¬ soft (.cells (actCells 4 frm to pick ta tn tc ba bn bc) 39 (0, 0)) ∧ Keep soft B W0.drew W) → (W.cell? ⟨w.heap.size, 1, none⟩ = some (.int .i64 frm) ∧ W.cell? ⟨w.heap.size, 2, none⟩ = some (.int .i64 to) ∧ W.cell? ⟨w.heap.size, 3, none⟩ = some (.int .i64 pick)) := fun W ⟨soft, hs, hk⟩ => by
    have := box_cells (hk.hard w.heap.size _ Hbox.out hs)
    exact ⟨this.2.1, this.2.2.1, this.2.2.2.1⟩
  have HS := Lib.hid hS
  clear hS
  refine wp_region_pi (fun W => W.cell? ⟨w.heap.size, 1, none⟩ = some (.int .i64 frm) ∧ W.cell? ⟨w.heap.size, 2, none⟩ = some (.int .i64 to) ∧ W.cell? ⟨w.heap.size, 3, none⟩ = some (.int .i64 pick))
    [(0, false), (1, false), (2, false), (3, false), (4, false), (5, false), (6, false), (8, false), (9, false), (10, false), (11, false), (12, false), (13, false), (14, false), (7, true), (15, true), (16, false), (17, false)] (by kernel_rfl) (by kernel_rfl) (fun c a d v w h => by cases d <;> exact h) ⟨c1, c2, c3⟩ ?_
  simp only [arrange, nth]
  repeat (first | (refine wpPi_quiet (v := ?_) (by rfl) (fun W hW => ?_) ?_; rotate_left; (obtain ⟨h1, h2, h3⟩ := hW; go_simp; with_reducible rfl); simp only [Act.put, List.setIfInBounds_toArray, List.set_cons_zero, List.set_cons_succ]) | (refine wpPi_off (by rfl) ?_; simp only [Act.put, List.setIfInBounds_toArray, List.set_cons_zero, List.set_cons_succ]))
  have hgd : Grow W0 W0.drew := Grow.drew _
  have hdr := H.out.grow hgd
  refine wpPi_call (by rfl) (by go_simp) (double_none hdr.net frm to pick H0.out) ?_
  rintro e w1 ⟨rfl, hg1⟩
  refine ⟨_, rfl, HS.out w1 ⟨softN, not_softN (by decide) _ _, Keep.ofGrow hg1 hdr.net.room⟩, ?_⟩
  try simp only [Act.put, List.setIfInBounds_toArray, List.set_cons_zero, List.set_cons_succ]
  have hd1 := hdr.grow hg1
  refine wpPi_call (by rfl) (by go_simp) (rdouble_any hd1.ref (by have := hd1.len; omega) frm to pick hpk (fun m hm => by have := hd1.cpl.byt m hm; omega)) ?_
  rintro e w2 (⟨_, rfl, hg2⟩ | ⟨i, x, hx, hxf, hxt, hpos, _⟩)
  rotate_left
  · rw [HoL.out] at hpos; cases hpos
  refine ⟨_, rfl, HS.out w2 ⟨softN, not_softN (by decide) _ _, Keep.ofGrow (hg1.trans hg2) hdr.net.room⟩, ?_⟩
  have Hfin : Hid (StepPost B w p r q nodes bound now L (.returned (.bool true)) w2) := Lib.hid (by
    have hS3 := (hd1.grow hg2)
    exact ⟨rfl, now, gs, v, L, hS3.net, hS3.ref, hS3.cpl, by omega, hS3.t0, by omega, (Hg0.out.trans (hgd.trans (hg1.trans hg2))).mono Hroom.out⟩)
  try simp only [Act.put, List.setIfInBounds_toArray, List.set_cons_zero, List.set_cons_succ]
  have hne : (false == false) = true := by simp
  clear hdr hgd hd1 hg1 hg2
  repeat (first | (refine wpPi_quiet (v := ?_) (by rfl) (fun W hW => ?_) ?_; rotate_left; (obtain ⟨h1, h2, h3⟩ := hW; go_simp; with_reducible rfl); simp only [Act.put, List.setIfInBounds_toArray, List.set_cons_zero, List.set_cons_succ]) | (refine wpPi_off (by rfl) ?_; simp only [Act.put, List.setIfInBounds_toArray, List.set_cons_zero, List.set_cons_succ]))
  refine wpPi_nil ?_
  go_wp2
  go_ret
  exact Hfin.out

set_option maxRecDepth 100000 in
set_option maxHeartbeats 4000000 in
theorem step_double_full {B : Nat} {w : World} {p r q : Nat} {nodes bound now : Int} {gs : List Bag} {v : Value} {L : List RM} (h : St B w p r q nodes bound now gs v L) (frm to pick : Int) (hpk : pick ≤ 9223372036854775807) (ta : Option Addr) (tn tc : Nat) (ba : Option Addr) (bn bc : Nat) (h0 : (msgsAt (frm, to) gs).length ≠ 0) (hfull : ((msgsAt (frm, to) gs).length : Int) = bound) :
    Calls Try.prog 15 #[.pointer (some ⟨p, 0, none⟩), .pointer (some ⟨q, 0, none⟩), .agg (actCells 4 frm to pick ta tn tc ba bn bc)] w (StepPost B w p r q nodes bound now L) := by
  have hbox := heap_alloc_new w (.cells (actCells 4 frm to pick ta tn tc ba bn bc) 39)
  have hg0 : Grow w (w.alloc (.cells (actCells 4 frm to pick ta tn tc ba bn bc) 39)) := Grow.alloc _ _
  have hln : (msgsAt (frm, to) gs).length = (ofL (frm, to) L).length := by rw [msgsAt_view]; exact h.cpl.len _
  have hmx : (msgsAt (frm, to) gs).length < 1000000000 := by
    rw [msgsAt_view]
    have := look_le_tot (frm, to) (vw gs)
    rw [h.cpl.tot] at this
    have := h.len
    omega
  have H := Lib.hid (h.grow hg0)
  have Hg0 := Lib.hid hg0
  have Hroom := Lib.hid h.net.room
  obtain ⟨c0, c1, c2, c3, c4, c5⟩ := box_cells hbox
  have Hbox := Lib.hid hbox
  have Hln := Lib.hid hln
  have Hmx := Lib.hid hmx
  have H0 := Lib.hid h0
  have Hfull := Lib.hid hfull
  clear h hg0 hbox hln hmx h0 hfull
  go_enter Try.func15, Try.ntmps15
  go_wp2_with fail
  generalize w.alloc (.cells (actCells 4 frm to pick ta tn tc ba bn bc) 39) = W0 at *
  have hS : ∀ W, (∃ soft, ¬ soft (.cells (actCells 4 frm to pick ta tn tc ba bn bc) 39 (0, 0)) ∧ Keep soft B W0.drew W) → (W.cell? ⟨w.heap.size, 1, none⟩ = some (.int .i64 frm) ∧ W.cell? ⟨w.heap.size, 2, none⟩ = some (.int .i64 to) ∧ W.cell? ⟨w.heap.size, 3, none⟩ = some (.int .i64 pick)) := fun W ⟨soft, hs, hk⟩ => by
    have := box_cells (hk.hard w.heap.size _ Hbox.out hs)
    exact ⟨this.2.1, this.2.2.1, this.2.2.2.1⟩
  have HS := Lib.hid hS
  clear hS
  refine wp_region_pi (fun W => W.cell? ⟨w.heap.size, 1, none⟩ = some (.int .i64 frm) ∧ W.cell? ⟨w.heap.size, 2, none⟩ = some (.int .i64 to) ∧ W.cell? ⟨w.heap.size, 3, none⟩ = some (.int .i64 pick))
    [(0, false), (1, false), (2, false), (3, false), (4, false), (5, false), (6, false), (8, false), (9, false), (10, false), (11, false), (12, false), (13, false), (14, false), (7, true), (15, true), (16, false), (17, false)] (by kernel_rfl) (by kernel_rfl) (fun c a d v w h => by cases d <;> exact h) ⟨c1, c2, c3⟩ ?_
  simp only [arrange, nth]
  repeat (first | (refine wpPi_quiet (v := ?_) (by rfl) (fun W hW => ?_) ?_; rotate_left; (obtain ⟨h1, h2, h3⟩ := hW; go_simp; with_reducible rfl); simp only [Act.put, List.setIfInBounds_toArray, List.set_cons_zero, List.set_cons_succ]) | (refine wpPi_off (by rfl) ?_; simp only [Act.put, List.setIfInBounds_toArray, List.set_cons_zero, List.set_cons_succ]))
  have hgd : Grow W0 W0.drew := Grow.drew _
  have hdr := H.out.grow hgd
  refine wpPi_call (by rfl) (by go_simp) (double_full hdr.net frm to pick H0.out Hfull.out) ?_
  rintro e w1 ⟨rfl, hg1⟩
  refine ⟨_, rfl, HS.out w1 ⟨softN, not_softN (by decide) _ _, Keep.ofGrow hg1 hdr.net.room⟩, ?_⟩
  try simp only [Act.put, List.setIfInBounds_toArray, List.set_cons_zero, List.set_cons_succ]
  have hd1 := hdr.grow hg1
  refine wpPi_call (by rfl) (by go_simp) (rdouble_any hd1.ref (by have := hd1.len; omega) frm to pick hpk (fun m hm => by have := hd1.cpl.byt m hm; omega)) ?_
  rintro e w2 (⟨hoe, _⟩ | ⟨i, x, hx, hxf, hxt, hpos, hpick, ⟨hno, rfl, hg2⟩ | ⟨hok, _⟩⟩)
  · exact absurd (by rw [Hln.out, hoe]; rfl) H0.out
  rotate_left
  · have h1 := hok.2.2.2.2
    have h2 := Hfull.out
    rw [Hln.out] at h2
    omega
  refine ⟨_, rfl, HS.out w2 ⟨softN, not_softN (by decide) _ _, Keep.ofGrow (hg1.trans hg2) hdr.net.room⟩, ?_⟩
  have Hfin : Hid (StepPost B w p r q nodes bound now L (.returned (.bool true)) w2) := Lib.hid (by
    have hS3 := (hd1.grow hg2)
    exact ⟨rfl, now, gs, v, L, hS3.net, hS3.ref, hS3.cpl, by omega, hS3.t0, by omega, (Hg0.out.trans (hgd.trans (hg1.trans hg2))).mono Hroom.out⟩)
  try simp only [Act.put, List.setIfInBounds_toArray, List.set_cons_zero, List.set_cons_succ]
  have hne : (false == false) = true := by simp
  clear hdr hgd hd1 hg1 hg2 hx hxf hxt hpos hpick hno
  repeat (first | (refine wpPi_quiet (v := ?_) (by rfl) (fun W hW => ?_) ?_; rotate_left; (obtain ⟨h1, h2, h3⟩ := hW; go_simp; with_reducible rfl); simp only [Act.put, List.setIfInBounds_toArray, List.set_cons_zero, List.set_cons_succ]) | (refine wpPi_off (by rfl) ?_; simp only [Act.put, List.setIfInBounds_toArray, List.set_cons_zero, List.set_cons_succ]))
  refine wpPi_nil ?_
  go_wp2
  go_ret
  exact Hfin.out

set_option maxRecDepth 100000 in
set_option maxHeartbeats 4000000 in
theorem step_double_yes {B : Nat} {w : World} {p r q : Nat} {nodes bound now : Int} {gs : List Bag} {v : Value} {L : List RM} (h : St B w p r q nodes bound now gs v L) (frm to pick : Int) (hpk : pick ≤ 9223372036854775807) (ta : Option Addr) (tn tc : Nat) (ba : Option Addr) (bn bc : Nat) (h0 : (msgsAt (frm, to) gs).length ≠ 0) (hfull : ((msgsAt (frm, to) gs).length : Int) ≠ bound) :
    Calls Try.prog 15 #[.pointer (some ⟨p, 0, none⟩), .pointer (some ⟨q, 0, none⟩), .agg (actCells 4 frm to pick ta tn tc ba bn bc)] w (StepPost B w p r q nodes bound now L) := by
  have hbox := heap_alloc_new w (.cells (actCells 4 frm to pick ta tn tc ba bn bc) 39)
  have hg0 : Grow w (w.alloc (.cells (actCells 4 frm to pick ta tn tc ba bn bc) 39)) := Grow.alloc _ _
  have hln : (msgsAt (frm, to) gs).length = (ofL (frm, to) L).length := by rw [msgsAt_view]; exact h.cpl.len _
  have hmx : (msgsAt (frm, to) gs).length < 1000000000 := by
    rw [msgsAt_view]
    have := look_le_tot (frm, to) (vw gs)
    rw [h.cpl.tot] at this
    have := h.len
    omega
  have H := Lib.hid (h.grow hg0)
  have Hg0 := Lib.hid hg0
  have Hroom := Lib.hid h.net.room
  obtain ⟨c0, c1, c2, c3, c4, c5⟩ := box_cells hbox
  have Hbox := Lib.hid hbox
  have Hln := Lib.hid hln
  have Hmx := Lib.hid hmx
  have hoL : (ofL (frm, to) L).length ≠ 0 := by omega
  obtain ⟨j, hj, hjlt⟩ := pick_at h0 pick
  obtain ⟨m, hm⟩ : ∃ m, (msgsAt (frm, to) gs)[j]? = some m := ⟨(msgsAt (frm, to) gs)[j], by simp [hjlt]⟩
  have Hj := Lib.hid hj
  have Hm := Lib.hid hm
  have HoL := Lib.hid hoL
  have H0 := Lib.hid h0
  have hml : m.bytes.length ≤ 140737488355328 := by
    rw [msgsAt_view] at hm
    have h5 := lookV_mem (V := vw gs) (k := (frm, to)) (by intro e; rw [e] at hm; simp at hm)
    have h6 := (h.cpl.full _ h5).2 m (List.mem_of_getElem? hm)
    omega
  have Hfull := Lib.hid hfull
  have Hml := Lib.hid hml
  clear h hg0 hbox hln hmx h0 hoL hj hjlt hm hfull hml
  go_enter Try.func15, Try.ntmps15
  go_wp2_with fail
  generalize w.alloc (.cells (actCells 4 frm to pick ta tn tc ba bn bc) 39) = W0 at *
  have hS : ∀ W, (∃ soft, ¬ soft (.cells (actCells 4 frm to pick ta tn tc ba bn bc) 39 (0, 0)) ∧ Keep soft B W0.drew W) → (W.cell? ⟨w.heap.size, 1, none⟩ = some (.int .i64 frm) ∧ W.cell? ⟨w.heap.size, 2, none⟩ = some (.int .i64 to) ∧ W.cell? ⟨w.heap.size, 3, none⟩ = some (.int .i64 pick)) := fun W ⟨soft, hs, hk⟩ => by
    have := box_cells (hk.hard w.heap.size _ Hbox.out hs)
    exact ⟨this.2.1, this.2.2.1, this.2.2.2.1⟩
  have HS := Lib.hid hS
  clear hS
  refine wp_region_pi (fun W => W.cell? ⟨w.heap.size, 1, none⟩ = some (.int .i64 frm) ∧ W.cell? ⟨w.heap.size, 2, none⟩ = some (.int .i64 to) ∧ W.cell? ⟨w.heap.size, 3, none⟩ = some (.int .i64 pick))
    [(0, false), (1, false), (2, false), (3, false), (4, false), (5, false), (6, false), (8, false), (9, false), (10, false), (11, false), (12, false), (13, false), (14, false), (7, true), (15, true), (16, false), (17, false)] (by kernel_rfl) (by kernel_rfl) (fun c a d v w h => by cases d <;> exact h) ⟨c1, c2, c3⟩ ?_
  simp only [arrange, nth]
  repeat (first | (refine wpPi_quiet (v := ?_) (by rfl) (fun W hW => ?_) ?_; rotate_left; (obtain ⟨h1, h2, h3⟩ := hW; go_simp; with_reducible rfl); simp only [Act.put, List.setIfInBounds_toArray, List.set_cons_zero, List.set_cons_succ]) | (refine wpPi_off (by rfl) ?_; simp only [Act.put, List.setIfInBounds_toArray, List.set_cons_zero, List.set_cons_succ]))
  have hgd : Grow W0 W0.drew := Grow.drew _
  have hdr := H.out.grow hgd
  refine wpPi_call (by rfl) (by go_simp) (double_yes hdr.net frm to pick H0.out Hfull.out Hmx.out j Hj.out m Hm.out Hml.out) ?_
  rintro e w1 ⟨rfl, hK1, mv, gs1, hN1, hV1, _⟩
  refine ⟨_, rfl, HS.out w1 ⟨softN, not_softN (by decide) _ _, hK1⟩, ?_⟩
  try simp only [Act.put, List.setIfInBounds_toArray, List.set_cons_zero, List.set_cons_succ]
  have hR1 := hdr.ref.keepN hK1
  refine wpPi_call (by rfl) (by go_simp) (rdouble_any hR1 (by have := hdr.len; omega) frm to pick hpk (fun m hm => by have := hdr.cpl.byt m hm; omega)) ?_
  rintro e w2 (⟨hoe, _⟩ | ⟨i, x, hx, hxf, hxt, hpos, hpick, ⟨hno, _⟩ | ⟨hok, rfl, hK2, v2, mv2, hR2⟩⟩)
  · exact absurd (by rw [hoe]; rfl) HoL.out
  · exfalso
    apply hno
    have h1 := H.out.cpl.rng x (List.mem_of_getElem? hx)
    have h2 := H.out.cpl.cap (frm, to)
    have h3 := Hfull.out
    rw [Hln.out] at h3
    rw [hxf, hxt] at h1
    exact ⟨h1.1.1, h1.1.2, h1.2.1, h1.2.2, by omega⟩
  have hij : (ofL (frm, to) (L.take i)).length = j := by
    have h1 := Hj.out
    rw [Hln.out] at h1
    omega
  have hbe := H.out.cpl.same (by rw [← msgsAt_view]; exact Hm.out) hx hxf hxt hij
  have hbox1 := hK1.hard w.heap.size _ (show W0.drew.heap[w.heap.size]? = _ from Hbox.out) (not_softN (by decide) _ _)
  have hbox2 := hK2.hard w.heap.size _ hbox1 (not_softR (by decide) (by decide) _ _)
  obtain ⟨_, e1, e2, e3, _, _⟩ := box_cells hbox2
  refine ⟨_, rfl, ⟨e1, e2, e3⟩, ?_⟩
  have Hfin : Hid (StepPost B w p r q nodes bound now L (.returned (.bool true)) w2) := Lib.hid (by
    refine ⟨rfl, now, gs1, v2, _, hN1.same (NetSame.keepR hK2), hR2, ?_, by simp, H.out.t0, by omega, ((Hg0.out.trans hgd).mono Hroom.out).trans (hK1.below.trans hK2.below)⟩
    rw [hV1, ← hbe]
    exact H.out.cpl.push mv mv2 (H.out.cpl.byt x (List.mem_of_getElem? hx)) hok)
  try simp only [Act.put, List.setIfInBounds_toArray, List.set_cons_zero, List.set_cons_succ]
  have hne : (true == true) = true := by simp
  clear hdr hgd hK1 hN1 hV1 hR1 hx hxf hxt hpos hpick hok hK2 hR2 hij hbe hbox1 hbox2 e1 e2 e3
  repeat (first | (refine wpPi_quiet (v := ?_) (by rfl) (fun W hW => ?_) ?_; rotate_left; (obtain ⟨h1, h2, h3⟩ := hW; go_simp; with_reducible rfl); simp only [Act.put, List.setIfInBounds_toArray, List.set_cons_zero, List.set_cons_succ]) | (refine wpPi_off (by rfl) ?_; simp only [Act.put, List.setIfInBounds_toArray, List.set_cons_zero, List.set_cons_succ]))
  refine wpPi_nil ?_
  go_wp2
  go_ret
  exact Hfin.out
end Go.Proofs.Ytbanfilgokideaa
