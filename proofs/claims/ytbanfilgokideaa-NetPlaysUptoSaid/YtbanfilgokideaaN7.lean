/- net.Deliver and net.Drop: none, or the message that the pick means; the same bound. -/
import Derived.Test.YtbanfilgokideaaN6
namespace Go.Proofs.Ytbanfilgokideaa
open Go.RowKit Go.Gl

def DeliverNo (w : World) (e : Ending) (w' : World) : Prop := e = .returned (.tuple #[.agg #[.int .i64 0, .int .i64 0, .slice none 0 0], .bool false]) ∧ Grow w w'

def Delivered (B : Nat) (w : World) (p r : Nat) (nodes bound now : Int) (gs : List Bag) (f t : Int) (j : Nat) (v : Value) (e : Ending) (w' : World) : Prop :=
  e = .returned (.tuple #[.agg #[.int .i64 f, .int .i64 t, v], .bool true]) ∧ Keep softN B w w' ∧ ∃ gs', NetAt B w' p r nodes bound now gs' ∧ vw gs' = takeV (f, t) j (vw gs)

theorem out_any {B : Nat} {w : World} {p r : Nat} {nodes bound now : Int} {gs : List Bag} (h : NetAt B w p r nodes bound now gs) (hfull : ∀ g ∈ gs, g.msgs ≠ []) (f t : Int) (j : Nat) (m : Msg) (hjm : (msgsAt (f, t) gs)[j]? = some m)
    (hmax : (msgsAt (f, t) gs).length < 1000000000) :
    Calls Try.prog 20 #[.pointer (some ⟨p, 0, none⟩), .agg #[.int .i64 f, .int .i64 t], .int .i64 j] w (Outed B w p r nodes bound now gs (f, t) j m.val) := by
  have hjlt : j < (msgsAt (f, t) gs).length := (List.getElem?_eq_some_iff.1 hjm).1
  obtain ⟨g, hg, hgk, hm, _⟩ := h.bag (k := (f, t)) (by omega)
  rw [hm] at hjm hmax hjlt
  by_cases hk : g.msgs.length = 1
  · exact out_last h hfull f t hg hgk j hk m hjm hmax
  · exact out_some h hfull f t hg hgk j (g.msgs.length - 1) (by omega) (by omega) m hjm hmax

/-- The kinds of blocks that a net is made of. -/
def netty (o : Obj) : Prop := (∃ es c, o = .map es c) ∨ ∃ a t f, o = .cells a t f ∧ (t = 49 ∨ t = 22 ∨ t = 5)

structure NetSame (w w' : World) : Prop where
  size : w.heap.size ≤ w'.heap.size
  same : ∀ (b : Nat) (o : Obj), w.heap[b]? = some o → netty o → w'.heap[b]? = some o

theorem NetAt.same {B : Nat} {w w' : World} {p r : Nat} {nodes bound now : Int} {gs : List Bag} (h : NetAt B w p r nodes bound now gs) (hs : NetSame w w') : NetAt B w' p r nodes bound now gs := by
  obtain ⟨c, h1, h2⟩ := h.map
  refine ⟨hs.same _ _ h.self (.inr ⟨_, _, _, rfl, .inl rfl⟩), ⟨c, hs.same _ _ h1 (.inl ⟨_, _, rfl⟩), h2⟩, h.keys, h.borns, h.rows, fun g hg => ⟨⟨(h.bags g hg).own.1, ?_⟩, fun m hm => ?_⟩, h.base, Nat.le_trans h.room hs.size⟩
  · rcases (h.bags g hg).own.2 with h3 | ⟨b, cap, cur, h3, h4, h5, h6⟩
    · exact .inl h3
    · exact .inr ⟨b, cap, cur, h3, h4, hs.same _ _ h5 (.inr ⟨_, _, _, rfl, .inr (.inl rfl)⟩), h6⟩
  · rcases (h.bags g hg).msg m hm with h3 | ⟨b, c, arr, h3, h4, h5⟩
    · exact .inl h3
    · exact .inr ⟨b, c, arr, h3, hs.same _ _ h4 (.inr ⟨_, _, _, rfl, .inr (.inr rfl)⟩), h5⟩

theorem NetSame.refl (w : World) : NetSame w w := ⟨Nat.le_refl _, fun _ _ h _ => h⟩
theorem NetSame.trans {a b c : World} (h : NetSame a b) (k : NetSame b c) : NetSame a c := ⟨Nat.le_trans h.size k.size, fun x o hx ho => k.same x o (h.same x o hx ho) ho⟩
theorem NetSame.ofGrow {a b : World} (h : Grow a b) : NetSame a b := ⟨h.size, fun _ _ hx _ => h.heap hx⟩
/-- A store into a block of another kind. -/
theorem NetSame.setCell {w w' : World} (h : NetSame w w') {b i : Nat} {arr : Array Value} {t : TypeId} {f : Nat × Nat} (v : Value) (hb : w.heap[b]? = some (.cells arr t f)) (ht : t ≠ 49 ∧ t ≠ 22 ∧ t ≠ 5) : NetSame w (w'.setCell ⟨b, i, none⟩ v) := by
  refine ⟨by simpa using h.size, fun x o hx ho => ?_⟩
  have hxb : x ≠ b := by
    intro e
    rw [e, hb] at hx
    cases hx
    rcases ho with ⟨_, _, e⟩ | ⟨_, _, _, e, h1⟩
    · cases e
    · cases e
      rcases h1 with h1 | h1 | h1
      · exact ht.1 h1
      · exact ht.2.1 h1
      · exact ht.2.2 h1
  rw [Below.heap_setCell _ _ _ _ hxb]
  exact h.same x o hx ho

theorem cells3 {w : World} {b : Nat} {x y z : Value} {t : TypeId} (h : w.heap[b]? = some (.cells #[x, y, z] t (0, 0))) :
    w.cell? ⟨b, 0, none⟩ = some x ∧ w.cell? ⟨b, 1, none⟩ = some y ∧ w.cell? ⟨b, 2, none⟩ = some z ∧ w.frozen? ⟨b, 0, none⟩ = false ∧ w.frozen? ⟨b, 1, none⟩ = false ∧ w.frozen? ⟨b, 2, none⟩ = false := by
  simp [World.cell?, World.frozen?, h]

set_option maxHeartbeats 1000000 in
theorem deliver_none {B : Nat} {w : World} {p r : Nat} {nodes bound now : Int} {gs : List Bag} (h : NetAt B w p r nodes bound now gs) (f t pick : Int) (h0 : (msgsAt (f, t) gs).length = 0) :
    Calls Try.prog 10 #[.pointer (some ⟨p, 0, none⟩), .int .i64 f, .int .i64 t, .int .i64 pick] w (DeliverNo w) := by
  have hm := meant_boxed (h.grow (Grow.alloc w (.cells #[.int .i64 0, .int .i64 0, .slice none 0 0] 31))) f t pick
  simp only [h0, if_true, ne_eq, not_true_eq_false, decide_false, World.size_alloc] at hm
  have H := Lib.hid hm
  clear hm h0 h
  go_enter Try.func10, Try.ntmps10
  go_wp2_with (first | (go_at_call 19; (with_reducible refine (meant_any _ _ _ _ _).mono ?_); rintro e w' ⟨rfl, rfl⟩; simp only [World.size_alloc]) | fail)
  (with_reducible refine H.out.mono ?_)
  rintro e w1 ⟨rfl, hg1⟩
  obtain ⟨d0, d1, d2, f0, f1, f2⟩ := cells3 (hg1.heap (heap_alloc_new w _))
  have l0 := World.block_lt_of_cell? w1 _ d0
  dsimp only at l0
  go_wp2
  exact bodyPost_ret (v := .tuple #[.agg #[.int .i64 0, .int .i64 0, .slice none 0 0], .bool false]) (by simp [results, Try.results10, go_sem, *]) rfl ⟨rfl, by have hgw : Below w.heap.size w w1 := (Grow.alloc _ _).trans hg1; (repeat (first | exact Below.refl _ _ | assumption | refine Below.drew ?_ | refine bDrewN ?_ | refine Below.setCell ?_ (by first | omega | (simp <;> omega)) _ | refine Below.alloc ?_ (by first | omega | (simp <;> omega)) _))⟩

set_option maxHeartbeats 1000000 in
theorem deliver_some {B : Nat} {w : World} {p r : Nat} {nodes bound now : Int} {gs : List Bag} (h : NetAt B w p r nodes bound now gs) (hfull : ∀ g ∈ gs, g.msgs ≠ []) (f t pick : Int) (hmax : (msgsAt (f, t) gs).length < 1000000000)
    (j : Nat) (hj : max pick 0 % ((msgsAt (f, t) gs).length : Int) = (j : Int)) (m : Msg) (hjm : (msgsAt (f, t) gs)[j]? = some m) :
    Calls Try.prog 10 #[.pointer (some ⟨p, 0, none⟩), .int .i64 f, .int .i64 t, .int .i64 pick] w (Delivered B w p r nodes bound now gs f t j m.val) := by
  have hjlt : j < (msgsAt (f, t) gs).length := (List.getElem?_eq_some_iff.1 hjm).1
  have h0 : (msgsAt (f, t) gs).length ≠ 0 := by omega
  have hm := meant_boxed (h.grow (Grow.alloc w (.cells #[.int .i64 0, .int .i64 0, .slice none 0 0] 31))) f t pick
  simp only [h0, if_false, ne_eq, not_false_eq_true, decide_true, World.size_alloc, hj] at hm
  have hout : ∀ W, Grow w W → Calls Try.prog 20 #[.pointer (some ⟨p, 0, none⟩), .agg #[.int .i64 f, .int .i64 t], .int .i64 j] W (Outed B W p r nodes bound now gs (f, t) j m.val) :=
    fun W hW => out_any (h.grow hW) hfull f t j m hjm hmax
  have hmv : OBytes 5 w m.val m.bytes := by
    obtain ⟨_, _, m', hm', _, _, ho, _⟩ := h.msgAt hjlt
    rw [hjm] at hm'; cases hm'; exact ho
  obtain ⟨ma, ml, mc, hmvv⟩ : ∃ a l c, m.val = .slice a l c := by
    rcases hmv with ⟨e, _⟩ | ⟨b, c, arr, e, _⟩
    · exact ⟨_, _, _, e⟩
    · exact ⟨_, _, _, e⟩
  rw [hmvv] at hout
  rw [hmvv]
  have H := Lib.hid hm
  have Ho := Lib.hid hout
  have HN := Lib.hid h
  clear hm h0 h hout hfull hj hjm hjlt hmax hmv hmvv
  go_enter Try.func10, Try.ntmps10
  go_wp2_with (first | (go_at_call 19; (with_reducible refine (meant_any _ _ _ _ _).mono ?_); rintro e w' ⟨rfl, rfl⟩; simp only [World.size_alloc]) | fail)
  (with_reducible refine H.out.mono ?_)
  rintro e w1 ⟨rfl, hg1⟩
  have hgw : Below w.heap.size w w1 := (Grow.alloc _ _).trans hg1
  have hb8 : w1.heap[w.heap.size]? = some (.cells #[.int .i64 0, .int .i64 0, .slice none 0 0] 31 (0, 0)) := hg1.heap (heap_alloc_new w _)
  have l0 := lt_of_getElem? hb8
  have Hb8 := Lib.hid hb8
  clear hb8
  go_wp2_with fail
  (with_reducible refine (Ho.out _ (by (repeat (first | exact Below.refl _ _ | assumption | refine Below.drew ?_ | refine bDrewN ?_ | refine Below.setCell ?_ (by first | omega | (simp <;> omega)) _ | refine Below.alloc ?_ (by first | omega | (simp <;> omega)) _)))).mono ?_)
  rintro e w2 ⟨rfl, hk2, gs', hN', hvw⟩
  have hb9 := hk2.hard w.heap.size _ (show (w1.alloc (.cells #[.int .i64 f, .int .i64 t] 52)).heap[w.heap.size]? = _ from (heap_alloc_old _ _ l0).trans Hb8.out) (not_softN (by decide) _ _)
  obtain ⟨d0, d1, d2, f0, f1, f2⟩ := cells3 hb9
  have l2 := lt_of_getElem? hb9
  have Hb9 := Lib.hid hb9
  have Hk2 := Lib.hid hk2
  have HN' := Lib.hid hN'
  have Hvw := Lib.hid hvw
  clear hb9 hk2 hN' hvw
  go_wp2
  refine bodyPost_ret (v := .tuple #[.agg #[.int .i64 f, .int .i64 t, .slice ma ml mc], .bool true]) (by simp [results, Try.results10, go_sem, *]) rfl ⟨rfl, ?_, gs', HN'.out.same ?_, Hvw.out⟩
  · exact Keep.setCell (Keep.setCell (Keep.setCell ((Keep.ofGrow (by (repeat (first | exact Below.refl _ _ | assumption | refine Below.drew ?_ | refine bDrewN ?_ | refine Below.setCell ?_ (by first | omega | (simp <;> omega)) _ | refine Below.alloc ?_ (by first | omega | (simp <;> omega)) _))) HN.out.room).trans Hk2.out) (Nat.le_refl _) HN.out.room) (Nat.le_refl _) HN.out.room) (Nat.le_refl _) HN.out.room
  · exact NetSame.setCell (NetSame.setCell (NetSame.setCell (NetSame.refl _) _ Hb9.out (by decide)) _ Hb9.out (by decide)) _ Hb9.out (by decide)

set_option maxHeartbeats 1000000 in
theorem drop_none {B : Nat} {w : World} {p r : Nat} {nodes bound now : Int} {gs : List Bag} (h : NetAt B w p r nodes bound now gs) (f t pick : Int) (h0 : (msgsAt (f, t) gs).length = 0) :
    Calls Try.prog 12 #[.pointer (some ⟨p, 0, none⟩), .int .i64 f, .int .i64 t, .int .i64 pick] w (fun e w' => e = .returned (.bool false) ∧ Grow w w') := by
  have H := Lib.hid (deliver_none h f t pick h0)
  clear h h0
  go_enter Try.func12, Try.ntmps12
  go_wp2_with fail
  (with_reducible refine H.out.mono ?_)
  rintro e w1 ⟨rfl, hg1⟩
  go_wp2
  go_ret
  exact ⟨rfl, hg1.trans (by (repeat (first | exact Below.refl _ _ | assumption | refine Below.drew ?_ | refine bDrewN ?_ | refine Below.setCell ?_ (by first | omega | (simp <;> omega)) _ | refine Below.alloc ?_ (by first | omega | (simp <;> omega)) _)))⟩

set_option maxHeartbeats 1000000 in
theorem drop_some {B : Nat} {w : World} {p r : Nat} {nodes bound now : Int} {gs : List Bag} (h : NetAt B w p r nodes bound now gs) (hfull : ∀ g ∈ gs, g.msgs ≠ []) (f t pick : Int) (hmax : (msgsAt (f, t) gs).length < 1000000000)
    (j : Nat) (hj : max pick 0 % ((msgsAt (f, t) gs).length : Int) = (j : Int)) (m : Msg) (hjm : (msgsAt (f, t) gs)[j]? = some m) :
    Calls Try.prog 12 #[.pointer (some ⟨p, 0, none⟩), .int .i64 f, .int .i64 t, .int .i64 pick] w (fun e w' => e = .returned (.bool true) ∧ Keep softN B w w' ∧ ∃ gs', NetAt B w' p r nodes bound now gs' ∧ vw gs' = takeV (f, t) j (vw gs)) := by
  obtain ⟨ma, ml, mc, hmvv⟩ : ∃ a l c, m.val = .slice a l c := by
    obtain ⟨_, _, m', hm', _, _, hmv, _⟩ := h.msgAt (List.getElem?_eq_some_iff.1 hjm).1
    rw [hjm] at hm'; cases hm'
    rcases hmv with ⟨e, _⟩ | ⟨b, c, arr, e, _⟩
    · exact ⟨_, _, _, e⟩
    · exact ⟨_, _, _, e⟩
  have hd := deliver_some h hfull f t pick hmax j hj m hjm
  rw [hmvv] at hd
  have H := Lib.hid hd
  clear h hfull hmax hj hjm hd hmvv
  go_enter Try.func12, Try.ntmps12
  go_wp2_with fail
  (with_reducible refine H.out.mono ?_)
  rintro e w1 ⟨rfl, hk1, gs', hN', hvw⟩
  have Hk1 := Lib.hid hk1
  have HN' := Lib.hid hN'
  have Hvw := Lib.hid hvw
  clear hk1 hN' hvw
  go_wp2
  go_ret
  exact ⟨rfl, Hk1.out.trans (Keep.ofGrow (by (repeat (first | exact Below.refl _ _ | assumption | refine Below.drew ?_ | refine bDrewN ?_ | refine Below.setCell ?_ (by first | omega | (simp <;> omega)) _ | refine Below.alloc ?_ (by first | omega | (simp <;> omega)) _))) HN'.out.room), gs', HN'.out.grow (by (repeat (first | exact Below.refl _ _ | assumption | refine Below.drew ?_ | refine bDrewN ?_ | refine Below.setCell ?_ (by first | omega | (simp <;> omega)) _ | refine Below.alloc ?_ (by first | omega | (simp <;> omega)) _))), Hvw.out⟩
end Go.Proofs.Ytbanfilgokideaa
