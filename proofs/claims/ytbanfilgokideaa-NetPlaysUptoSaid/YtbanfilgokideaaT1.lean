/- One act on the net and on the document's net: what is asked, what comes out; Send. -/
import Derived.Test.YtbanfilgokideaaPK
namespace Go.Proofs.Ytbanfilgokideaa
open Go.RowKit Go.Gl

structure St (B : Nat) (w : World) (p r q : Nat) (nodes bound now : Int) (gs : List Bag) (v : Value) (L : List RM) : Prop where
  net : NetAt B w p r nodes bound now gs
  ref : RefAt B w q nodes bound now v L
  cpl : Cpl nodes bound (vw gs) L
  len : L.length ≤ 60000
  b16 : bound ≤ 65536
  t0 : 0 ≤ now
  t1 : now ≤ 1000
  pB : B ≤ p

def StepPost (B : Nat) (w : World) (p r q : Nat) (nodes bound now : Int) (L : List RM) (e : Ending) (w' : World) : Prop :=
  e = .returned (.bool true) ∧ ∃ (now' : Int) (gs' : List Bag) (v' : Value) (L' : List RM), NetAt B w' p r nodes bound now' gs' ∧ RefAt B w' q nodes bound now' v' L' ∧ Cpl nodes bound (vw gs') L' ∧ L'.length ≤ L.length + 101 ∧ 0 ≤ now' ∧ now' ≤ now + 1 ∧ Below B w w'

theorem NetSame.keepQ {B q : Nat} {w w' : World} {arr : Array Value} {f : Nat × Nat} (hq : w.heap[q]? = some (.cells arr 61 f)) (hk : KeepQ B q w w') : NetSame w w' := by
  refine ⟨hk.1.size, fun b o hb ho => hk.2 b o hb fun e => ?_⟩
  rw [e, hq] at hb
  cases hb
  rcases ho with ⟨_, _, e⟩ | ⟨_, _, _, e, h1⟩
  · cases e
  · cases e
    rcases h1 with h1 | h1 | h1 <;> cases h1

theorem oBytes_keepQ {B q : Nat} {w w' : World} {arr : Array Value} {f : Nat × Nat} {v : Value} {l : List UInt8} (h : OBytes 5 w v l) (hq : w.heap[q]? = some (.cells arr 61 f)) (hk : KeepQ B q w w') : OBytes 5 w' v l := by
  rcases h with h | ⟨b, c, arr', h1, h2, h3⟩
  · exact .inl h
  · refine .inr ⟨b, c, arr', h1, hk.2 b _ h2 (fun e => ?_), h3⟩
    rw [e, hq] at h2; cases h2

theorem St.grow {B : Nat} {w w' : World} {p r q : Nat} {nodes bound now : Int} {gs : List Bag} {v : Value} {L : List RM} (h : St B w p r q nodes bound now gs v L) (hg : Grow w w') : St B w' p r q nodes bound now gs v L :=
  ⟨h.net.grow hg, h.ref.grow hg, h.cpl, h.len, h.b16, h.t0, h.t1, h.pB⟩

abbrev actCells (op frm to pick : Int) (ta : Option Addr) (tn tc : Nat) (ba : Option Addr) (bn bc : Nat) : Array Value := #[.int .i64 op, .int .i64 frm, .int .i64 to, .int .i64 pick, .slice ta tn tc, .slice ba bn bc]

theorem box_cells {w : World} {b : Nat} {x0 x1 x2 x3 x4 x5 : Value} (h : w.heap[b]? = some (.cells #[x0, x1, x2, x3, x4, x5] 39 (0, 0))) :
    w.cell? ⟨b, 0, none⟩ = some x0 ∧ w.cell? ⟨b, 1, none⟩ = some x1 ∧ w.cell? ⟨b, 2, none⟩ = some x2 ∧ w.cell? ⟨b, 3, none⟩ = some x3 ∧ w.cell? ⟨b, 4, none⟩ = some x4 ∧ w.cell? ⟨b, 5, none⟩ = some x5 := by
  simp [World.cell?, h]

set_option maxRecDepth 100000 in
set_option maxHeartbeats 2000000 in
theorem step_send {B : Nat} {w : World} {p r q : Nat} {nodes bound now : Int} {gs : List Bag} {v : Value} {L : List RM} (h : St B w p r q nodes bound now gs v L) (frm to pick : Int) (ta : Option Addr) (tn tc : Nat) (ba : Option Addr) (bn bc : Nat)
    (bs : List UInt8) (hb : BytesA w (.slice ba bn bc) bs) (hbf : ∀ b, blk (.slice ba bn bc) = some b → bs ≠ [] → b < B) (hbl : bs.length ≤ 1000) {w0 : World} (hw0 : Below B w0 w) {ks : List Int} (ht : Ints w0 (.slice ta tn tc) ks) (hB : w0.heap.size ≤ B) (hks : ks.length ≤ 100) :
    Calls Try.prog 15 #[.pointer (some ⟨p, 0, none⟩), .pointer (some ⟨q, 0, none⟩), .agg (actCells 1 frm to pick ta tn tc ba bn bc)] w (StepPost B w p r q nodes bound now L) := by
  have hbox := heap_alloc_new w (.cells (actCells 1 frm to pick ta tn tc ba bn bc) 39)
  have hg0 : Grow w (w.alloc (.cells (actCells 1 frm to pick ta tn tc ba bn bc) 39)) := Grow.alloc _ _
  have H := Lib.hid (h.grow hg0)
  have Hg0 := Lib.hid hg0
  have Hb := Lib.hid (hb.grow hg0)
  have Hbf := Lib.hid hbf
  have Hw0 : Hid (Below B w0 (w.alloc (.cells (actCells 1 frm to pick ta tn tc ba bn bc) 39))) := Lib.hid (hw0.trans (hg0.mono h.net.room))
  have Ht := Lib.hid ht
  have Hroom := Lib.hid h.net.room
  obtain ⟨c0, c1, c2, c3, c4, c5⟩ := box_cells hbox
  have Hbox := Lib.hid hbox
  clear h hb hbf hw0 ht hg0 hbox
  go_enter Try.func15, Try.ntmps15
  go_wp2_with fail
  generalize w.alloc (.cells (actCells 1 frm to pick ta tn tc ba bn bc) 39) = W0 at *
  have hS : ∀ W, (∃ soft, ¬ soft (.cells (actCells 1 frm to pick ta tn tc ba bn bc) 39 (0, 0)) ∧ Keep soft B W0.drew W) → (W.cell? ⟨w.heap.size, 1, none⟩ = some (.int .i64 frm) ∧ W.cell? ⟨w.heap.size, 4, none⟩ = some (.slice ta tn tc) ∧ W.cell? ⟨w.heap.size, 5, none⟩ = some (.slice ba bn bc)) := fun W ⟨soft, hs, hk⟩ => by
    have := box_cells (hk.hard w.heap.size _ Hbox.out hs)
    exact ⟨this.2.1, this.2.2.2.2.1, this.2.2.2.2.2⟩
  have HS := Lib.hid hS
  clear hS
  refine wp_region_pi (fun W => W.cell? ⟨w.heap.size, 1, none⟩ = some (.int .i64 frm) ∧ W.cell? ⟨w.heap.size, 4, none⟩ = some (.slice ta tn tc) ∧ W.cell? ⟨w.heap.size, 5, none⟩ = some (.slice ba bn bc))
    [(0, false), (1, false), (2, false), (3, false), (4, false), (5, false), (6, false), (8, false), (9, false), (10, false), (11, false), (12, false), (13, false), (14, false), (7, true), (15, true), (16, false), (17, false)] (by kernel_rfl) (by kernel_rfl) (fun c a d v w h => by cases d <;> exact h) ⟨c1, c4, c5⟩ ?_
  simp only [arrange, nth]
  repeat (first | (refine wpPi_quiet (v := ?_) (by rfl) (fun W hW => ?_) ?_; rotate_left; (obtain ⟨h1, h2, h3⟩ := hW; go_simp; with_reducible rfl); simp only [Act.put, List.setIfInBounds_toArray, List.set_cons_zero, List.set_cons_succ]) | (refine wpPi_off (by rfl) ?_; simp only [Act.put, List.setIfInBounds_toArray, List.set_cons_zero, List.set_cons_succ]))
  have hgd : Grow W0 W0.drew := Grow.drew _
  have hdr := H.out.grow hgd
  refine wpPi_call (by rfl) (by go_simp) (send_any hdr.net hdr.b16 frm (.slice ba bn bc) bs (Hb.out.grow hgd) (fun b hb hne => .inl (Hbf.out b hb hne)) (by omega) (Hw0.out.trans (hgd.mono H.out.net.room)) Ht.out hB (by omega)) ?_
  rintro e w1 ⟨gs1, n1, vs1, rfl, hn1, hN1, hs1, hK1, _⟩
  refine ⟨_, rfl, HS.out w1 ⟨_, not_softN (by decide) _ _, hK1⟩, ?_⟩
  try simp only [Act.put, List.setIfInBounds_toArray, List.set_cons_zero, List.set_cons_succ]
  have hR1 := hdr.ref.keepN hK1
  refine wpPi_call (by rfl) (by go_simp) (rsend_any hR1 frm (.slice ba bn bc) bs ((Hb.out.grow hgd).keep hK1.size (fun b hb hne => hK1.below.block b (Hbf.out b hb hne))) Hbf.out (by omega) ((Hw0.out.trans (hgd.mono H.out.net.room)).trans hK1.below) Ht.out hB (by have := H.out.len; omega)) ?_
  rintro e w2 ⟨n2, L2, v2, rfl, hs2, hR2, hK2⟩
  have hbox1 := hK1.hard w.heap.size _ (show W0.drew.heap[w.heap.size]? = _ from Hbox.out) (not_softN (by decide) _ _)
  have hbox2 := hK2.hard w.heap.size _ hbox1 (not_softR (by decide) (by decide) _ _)
  obtain ⟨_, e1, _, _, e4, e5⟩ := box_cells hbox2
  refine ⟨_, rfl, ⟨e1, e4, e5⟩, ?_⟩
  try simp only [Act.put, List.setIfInBounds_toArray, List.set_cons_zero, List.set_cons_succ]
  obtain ⟨rfl, hC⟩ := Cpl.sent (by omega) hdr.cpl hs1 hs2
  have hlen := rsent_len hs2
  have Hfin : Hid (StepPost B w p r q nodes bound now L (.returned (.bool true)) w2) := Lib.hid ⟨rfl, now, gs1, v2, L2, hN1.same (NetSame.keepR hK2), hR2, hC, by omega, H.out.t0, by omega, ((Hg0.out.trans hgd).mono Hroom.out).trans (hK1.below.trans hK2.below)⟩
  have hne : ((n1 : Int) == (n1 : Int)) = true := by simp
  clear hdr hN1 hs1 hK1 hR1 hs2 hR2 hK2 hbox1 hbox2 e1 e4 e5 hC hlen hgd
  repeat (first | (refine wpPi_quiet (v := ?_) (by rfl) (fun W hW => ?_) ?_; rotate_left; (obtain ⟨h1, h2, h3⟩ := hW; go_simp; with_reducible rfl); simp only [Act.put, List.setIfInBounds_toArray, List.set_cons_zero, List.set_cons_succ]) | (refine wpPi_off (by rfl) ?_; simp only [Act.put, List.setIfInBounds_toArray, List.set_cons_zero, List.set_cons_succ]))
  refine wpPi_nil ?_
  go_wp2
  go_ret
  exact Hfin.out
end Go.Proofs.Ytbanfilgokideaa
