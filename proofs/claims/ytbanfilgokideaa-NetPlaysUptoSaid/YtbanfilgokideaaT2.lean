/- One act on both nets: Deliver. -/
import Derived.Test.YtbanfilgokideaaT1
namespace Go.Proofs.Ytbanfilgokideaa
open Go.RowKit Go.Gl

/-- The place that a pick means. -/
theorem pick_at {n : Nat} (hn : n ≠ 0) (pick : Int) : ∃ j : Nat, max pick 0 % (n : Int) = (j : Int) ∧ j < n := by
  refine ⟨(max pick 0 % (n : Int)).toNat, ?_, ?_⟩
  · rw [Int.toNat_of_nonneg]; exact Int.emod_nonneg _ (by omega)
  · have h1 := Int.emod_lt_of_pos (max pick 0) (show (0 : Int) < (n : Int) by omega)
    have h2 := Int.emod_nonneg (max pick 0) (show (n : Int) ≠ 0 by omega)
    omega

/-- The message that a pick means has the same bytes on both sides. -/
theorem Cpl.same {nodes bound : Int} {V : View} {L : List RM} (h : Cpl nodes bound V L) {f t : Int} {j : Nat} {m : Msg} (hm : (lookV (f, t) V)[j]? = some m) {i : Nat} {x : RM} (hx : L[i]? = some x) (h1 : x.frm = f) (h2 : x.to = t) (hj : (ofL (f, t) (L.take i)).length = j) : x.bytes = m.bytes := by
  have e1 := ofL_at (k := (f, t)) hx h1 h2
  rw [hj] at e1
  have e2 := congrArg (·[j]?) (h.look (f, t))
  simp only [List.getElem?_map, hm, e1, Option.map_some, Option.some.injEq] at e2
  exact e2.symm

theorem bytes_nil (w : World) : Bytes w (.slice none 0 0) [] := .inl ⟨rfl, rfl⟩

set_option maxRecDepth 100000 in
set_option maxHeartbeats 4000000 in
theorem step_deliver_none {B : Nat} {w : World} {p r q : Nat} {nodes bound now : Int} {gs : List Bag} {v : Value} {L : List RM} (h : St B w p r q nodes bound now gs v L) (frm to pick : Int) (hpk : pick ≤ 9223372036854775807) (ta : Option Addr) (tn tc : Nat) (ba : Option Addr) (bn bc : Nat) (h0 : (msgsAt (frm, to) gs).length = 0) :
    Calls Try.prog 15 #[.pointer (some ⟨p, 0, none⟩), .pointer (some ⟨q, 0, none⟩), .agg (actCells 2 frm to pick ta tn tc ba bn bc)] w (StepPost B w p r q nodes bound now L) := by
  have hbox := heap_alloc_new w (.cells (actCells 2 frm to pick ta tn tc ba bn bc) 39)
  have hg0 : Grow w (w.alloc (.cells (actCells 2 frm to pick ta tn tc ba bn bc) 39)) := Grow.alloc _ _
  have hoL : ofL (frm, to) L = [] := List.eq_nil_of_length_eq_zero (by rw [← h.cpl.len, ← msgsAt_view]; exact h0)
  have H := Lib.hid (h.grow hg0)
  have Hg0 := Lib.hid hg0
  have Hroom := Lib.hid h.net.room
  obtain ⟨c0, c1, c2, c3, c4, c5⟩ := box_cells hbox
  have Hbox := Lib.hid hbox
  have H0 := Lib.hid h0
  have HoL := Lib.hid hoL
  clear h hg0 hbox h0 hoL
  go_enter Try.func15, Try.ntmps15
  go_wp2_with fail
  generalize w.alloc (.cells (actCells 2 frm to pick ta tn tc ba bn bc) 39) = W0 at *
  (with_reducible refine (deliver_none H.out.net frm to pick H0.out).mono ?_)
  rintro e w1 ⟨rfl, hg1⟩
  have hbx1 := hg1.heap Hbox.out
  clear c0 c1 c2 c3 c4 c5
  obtain ⟨c0, c1, c2, c3, c4, c5⟩ := box_cells hbx1
  have l1 := lt_of_getElem? hbx1
  have Hg1 := Lib.hid hg1
  clear hbx1 hg1
  go_wp2_with fail
  have hga : Grow w1 (w1.alloc (.cells #[.int .i64 0, .int .i64 0, .slice none 0 0] 31)) := Grow.alloc _ _
  have hb7 : (w1.alloc (.cells #[.int .i64 0, .int .i64 0, .slice none 0 0] 31)).heap[w1.heap.size]? = some (.cells #[.int .i64 0, .int .i64 0, .slice none 0 0] 31 (0, 0)) := heap_alloc_new _ _
  have hS1 := (H.out.grow Hg1.out).grow hga
  have Hga := Lib.hid hga
  have Hb7 := Lib.hid hb7
  have HS1 := Lib.hid hS1
  clear hga hb7 hS1
  (with_reducible refine (rdeliver_any HS1.out.ref (by have := HS1.out.len; omega) frm to pick hpk).mono ?_)
  rintro e w2 (⟨_, rfl, hg2⟩ | ⟨i, m, _, _, _, hpos, _⟩)
  · have hb72 := hg2.heap Hb7.out
    obtain ⟨d0, d1, d2, _⟩ := cells3 hb72
    have l2 := lt_of_getElem? hb72
    have Hg2 := Lib.hid hg2
    clear hb72 hg2
    go_wp2_with fail
    (with_reducible refine (same_true 0 0 none none 0 0 0 0 [] (bytes_nil _) (bytes_nil _)).mono ?_)
    rintro e w3 ⟨rfl, hg3⟩
    have Hg3 := Lib.hid hg3
    clear hg3
    go_wp2
    go_ret
    have hall : Grow W0 w3 := ((Hg1.out.trans Hga.out).trans Hg2.out).trans ((Grow.alloc _ _).trans Hg3.out)
    have hS3 := H.out.grow hall
    exact ⟨rfl, now, gs, v, L, hS3.net, hS3.ref, hS3.cpl, by omega, hS3.t0, by omega, (Hg0.out.trans hall).mono Hroom.out⟩
  · rw [HoL.out] at hpos; cases hpos

set_option maxRecDepth 100000 in
set_option maxHeartbeats 4000000 in
theorem step_deliver_some {B : Nat} {w : World} {p r q : Nat} {nodes bound now : Int} {gs : List Bag} {v : Value} {L : List RM} (h : St B w p r q nodes bound now gs v L) (frm to pick : Int) (hpk : pick ≤ 9223372036854775807) (ta : Option Addr) (tn tc : Nat) (ba : Option Addr) (bn bc : Nat) (h0 : (msgsAt (frm, to) gs).length ≠ 0) :
    Calls Try.prog 15 #[.pointer (some ⟨p, 0, none⟩), .pointer (some ⟨q, 0, none⟩), .agg (actCells 2 frm to pick ta tn tc ba bn bc)] w (StepPost B w p r q nodes bound now L) := by
  have hbox := heap_alloc_new w (.cells (actCells 2 frm to pick ta tn tc ba bn bc) 39)
  have hg0 : Grow w (w.alloc (.cells (actCells 2 frm to pick ta tn tc ba bn bc) 39)) := Grow.alloc _ _
  have hln : (msgsAt (frm, to) gs).length = (ofL (frm, to) L).length := by rw [msgsAt_view]; exact h.cpl.len _
  have hoL : (ofL (frm, to) L).length ≠ 0 := by omega
  have hmx : (msgsAt (frm, to) gs).length < 1000000000 := by
    rw [msgsAt_view]
    have := look_le_tot (frm, to) (vw gs)
    rw [h.cpl.tot] at this
    have := h.len
    omega
  obtain ⟨j, hj, hjlt⟩ := pick_at h0 pick
  obtain ⟨m, hm⟩ : ∃ m, (msgsAt (frm, to) gs)[j]? = some m := ⟨(msgsAt (frm, to) gs)[j], by simp [hjlt]⟩
  have hdel := deliver_some (h.grow hg0).net (full_of_all h.cpl.full) frm to pick hmx j hj m hm
  have hob : OBytes 5 (w.alloc (.cells (actCells 2 frm to pick ta tn tc ba bn bc) 39)) m.val m.bytes := by
    obtain ⟨_, _, m', hm', _, _, ho, _⟩ := (h.grow hg0).net.msgAt hjlt
    rw [hm] at hm'; cases hm'; exact ho
  obtain ⟨ma, ml, mc, hmv⟩ := oBytes_slice hob
  rw [hmv] at hdel
  have H := Lib.hid (h.grow hg0)
  have Hg0 := Lib.hid hg0
  have Hroom := Lib.hid h.net.room
  obtain ⟨c0, c1, c2, c3, c4, c5⟩ := box_cells hbox
  have Hbox := Lib.hid hbox
  have HoL := Lib.hid hoL
  have Hln := Lib.hid hln
  have Hj := Lib.hid hj
  have Hm := Lib.hid hm
  have Hob := Lib.hid hob
  have Hdel := Lib.hid hdel
  have Hmv := Lib.hid hmv
  clear h hg0 hbox h0 hoL hmx hj hjlt hm hdel hob hmv hln
  go_enter Try.func15, Try.ntmps15
  go_wp2_with fail
  generalize w.alloc (.cells (actCells 2 frm to pick ta tn tc ba bn bc) 39) = W0 at *
  (with_reducible refine Hdel.out.mono ?_)
  rintro e w1 ⟨rfl, hK1, gs1, hN1, hV1⟩
  have hbx1 := hK1.hard _ _ Hbox.out (not_softN (by decide) _ _)
  clear c0 c1 c2 c3 c4 c5
  obtain ⟨c0, c1, c2, c3, c4, c5⟩ := box_cells hbx1
  have l1 := lt_of_getElem? hbx1
  have HK1 := Lib.hid hK1
  have HN1 := Lib.hid hN1
  have HV1 := Lib.hid hV1
  clear hbx1 hK1 hN1 hV1
  go_wp2_with fail
  have hga : Grow w1 (w1.alloc (.cells #[.int .i64 frm, .int .i64 to, .slice ma ml mc] 31)) := Grow.alloc _ _
  have hb7 : (w1.alloc (.cells #[.int .i64 frm, .int .i64 to, .slice ma ml mc] 31)).heap[w1.heap.size]? = some (.cells #[.int .i64 frm, .int .i64 to, .slice ma ml mc] 31 (0, 0)) := heap_alloc_new _ _
  have hR1 := (H.out.ref.keepN HK1.out).grow hga
  have Hga := Lib.hid hga
  have Hb7 := Lib.hid hb7
  have HR1 := Lib.hid hR1
  clear hga hb7 hR1
  (with_reducible refine (rdeliver_any HR1.out (by have := H.out.len; omega) frm to pick hpk).mono ?_)
  rintro e w2 (⟨hoe, _⟩ | ⟨i, x, hx, hxf, hxt, hpos, hpick, rfl, hKq, v2, hR2⟩)
  · exact absurd (by rw [hoe]; rfl) HoL.out
  · have hij : (ofL (frm, to) (L.take i)).length = j := by
      have h1 := Hj.out
      rw [Hln.out] at h1
      omega
    have hbe := H.out.cpl.same (by rw [← msgsAt_view]; exact Hm.out) hx hxf hxt hij
    have hxo : OBytes 5 w2 x.val x.bytes := oBytes_keepQ (HR1.out.msg x (List.mem_of_getElem? hx)) HR1.out.self hKq
    obtain ⟨xa, xl, xc, hxv⟩ := oBytes_slice hxo
    rw [hxv] at hxo
    rw [hxv]
    have hmo : OBytes 5 w2 (.slice ma ml mc) m.bytes := by
      have h1 := oBytes_hard Hob.out HK1.out
      rw [Hmv.out] at h1
      have h2 : OBytes 5 (w1.alloc (.cells #[.int .i64 frm, .int .i64 to, .slice ma ml mc] 31)) (.slice ma ml mc) m.bytes := by
        rcases h1 with h1 | ⟨b, c, arr, h1, h2, h3⟩
        · exact .inl h1
        · exact .inr ⟨b, c, arr, h1, Hga.out.heap h2, h3⟩
      exact oBytes_keepQ h2 HR1.out.self hKq
    have hb72 : w2.heap[w1.heap.size]? = some (.cells #[.int .i64 frm, .int .i64 to, .slice ma ml mc] 31 (0, 0)) := hKq.2 _ _ Hb7.out (fun e => by have h1 := Hb7.out; rw [e, HR1.out.self] at h1; cases h1)
    have hN2 := (HN1.out.grow Hga.out).same (NetSame.keepQ HR1.out.self hKq)
    have hC := H.out.cpl.take hx
    rw [hxf, hxt, hij, ← HV1.out] at hC
    have hlen : (L.eraseIdx i).length ≤ L.length := (List.eraseIdx_sublist L i).length_le
    obtain ⟨d0, d1, d2, _⟩ := cells3 hb72
    have l2 := lt_of_getElem? hb72
    have Hbel : Hid (Below B W0 w2) := Lib.hid ((HK1.out.below.trans (Hga.out.mono HN1.out.room)).trans hKq.1)
    rw [hbe] at hxo
    have Hxo := Lib.hid hxo
    have Hmo := Lib.hid hmo
    have HN2 := Lib.hid hN2
    have HC := Lib.hid hC
    have HR2 := Lib.hid hR2
    have Hlen := Lib.hid hlen
    clear hb72 hKq hN2 hC hR2 hxo hmo hx hxf hxt hpos hpick hbe hij hlen
    go_wp2_with fail
    (with_reducible refine (same_true frm to ma xa ml xl mc xc m.bytes (Grow.bytes (Grow.alloc _ _) Hmo.out.bytes) (Grow.bytes (Grow.alloc _ _) Hxo.out.bytes)).mono ?_)
    rintro e w3 ⟨rfl, hg3⟩
    have Hg3 := Lib.hid hg3
    clear hg3
    go_wp2
    go_ret
    have hall : Grow w2 w3 := (Grow.alloc _ _).trans Hg3.out
    exact ⟨rfl, now, gs1, v2, L.eraseIdx i, HN2.out.grow hall, HR2.out.grow hall, HC.out, by have := Hlen.out; omega, H.out.t0, by omega, (Hg0.out.mono Hroom.out).trans (Hbel.out.trans (hall.mono HN2.out.room))⟩
end Go.Proofs.Ytbanfilgokideaa
