/- net.Double: none, full, or one message more; the same bound. -/
import Derived.Test.YtbanfilgokideaaN3
namespace Go.Proofs.Ytbanfilgokideaa
open Go.RowKit Go.Gl

/-- The world behind 'meant' and its closure: the boxes are there, and more. -/
abbrev boxed (w : World) (p : Nat) (f t pick : Int) : World :=
  (((w.alloc (.cells #[.pointer (some ⟨p, 0, none⟩)] 24)).alloc (.cells #[.int .i64 f] 3)).alloc (.cells #[.int .i64 t] 3)).alloc (.cells #[.int .i64 pick] 3)

theorem grow_boxed (w : World) (p : Nat) (f t pick : Int) : Grow w (boxed w p f t pick) := by (repeat (first | exact Below.refl _ _ | assumption | refine Below.drew ?_ | refine bDrewN ?_ | refine Below.setCell ?_ (by first | omega | (simp <;> omega)) _ | refine Below.alloc ?_ (by first | omega | (simp <;> omega)) _))

theorem meant_boxed {B : Nat} {w : World} {p r : Nat} {nodes bound now : Int} {gs : List Bag} (h : NetAt B w p r nodes bound now gs) (f t pick : Int) :
    Calls Try.prog 31 #[.pointer (some ⟨w.heap.size + 1, 0, none⟩), .pointer (some ⟨w.heap.size + 2, 0, none⟩), .pointer (some ⟨w.heap.size, 0, none⟩), .pointer (some ⟨w.heap.size + 3, 0, none⟩)] (boxed w p f t pick)
      (fun e w' => e = .returned (.tuple #[.agg #[.int .i64 f, .int .i64 t], .int .i64 (if (msgsAt (f, t) gs).length = 0 then 0 else ((max pick 0) % ((msgsAt (f, t) gs).length : Nat))), .bool (decide ((msgsAt (f, t) gs).length ≠ 0))]) ∧ Grow w w') := by
  refine (meant1_any (h.grow (grow_boxed w p f t pick)) f t pick _ _ _ _ ?_ ?_ ?_ ?_).mono ?_
  · simp [boxed, go_sem]
  · simp [boxed, go_sem]
  · simp [boxed, go_sem]
  · simp [boxed, go_sem]
  · rintro e w' ⟨he, hg⟩
    exact ⟨he, (grow_boxed w p f t pick).trans hg⟩

def DoubleNo (w : World) (e : Ending) (w' : World) : Prop := e = .returned (.bool false) ∧ Grow w w'

set_option maxHeartbeats 1000000 in
theorem double_none {B : Nat} {w : World} {p r : Nat} {nodes bound now : Int} {gs : List Bag} (h : NetAt B w p r nodes bound now gs) (f t pick : Int) (h0 : (msgsAt (f, t) gs).length = 0) :
    Calls Try.prog 9 #[.pointer (some ⟨p, 0, none⟩), .int .i64 f, .int .i64 t, .int .i64 pick] w (DoubleNo w) := by
  have hm := meant_boxed h f t pick
  simp only [h0, if_true, ne_eq, not_true_eq_false, decide_false] at hm
  have H := Lib.hid hm
  clear hm h0 h
  go_enter Try.func9, Try.ntmps9
  go_wp2_with (first | (go_at_call 19; refine (meant_any _ _ _ _ _).mono ?_; rintro e w' ⟨rfl, rfl⟩) | (go_at_call 31; refine H.out.mono ?_; rintro e w1 ⟨rfl, hg1⟩))
  refine wp_region_pi (fun _ => True) [(0, false), (1, false), (2, false), (3, false), (4, false), (5, false), (6, false), (7, false), (8, false), (9, false), (10, false), (11, false), (12, false), (13, false), (14, false), (15, false)] (by kernel_rfl) (by kernel_rfl) (fun c a d v w h => by cases d <;> exact h) trivial ?_
  simp only [arrange, nth]
  repeat (first | (refine wpPi_quiet (v := ?_) (by rfl) (fun W hW => ?_) ?_; rotate_left; (obtain _ := hW; go_simp; with_reducible rfl); simp only [Act.put, List.setIfInBounds_toArray, List.set_cons_zero, List.set_cons_succ]) | (refine wpPi_off (by rfl) ?_; simp only [Act.put, List.setIfInBounds_toArray, List.set_cons_zero, List.set_cons_succ]))
  refine wpPi_nil ?_
  go_wp2
  go_ret
  exact ⟨rfl, hg1.trans (by (repeat (first | exact Below.refl _ _ | assumption | refine Below.drew ?_ | refine bDrewN ?_ | refine Below.setCell ?_ (by first | omega | (simp <;> omega)) _ | refine Below.alloc ?_ (by first | omega | (simp <;> omega)) _)))⟩

set_option maxHeartbeats 1000000 in
theorem double_full {B : Nat} {w : World} {p r : Nat} {nodes bound now : Int} {gs : List Bag} (h : NetAt B w p r nodes bound now gs) (f t pick : Int) (h0 : (msgsAt (f, t) gs).length ≠ 0) (hb : ((msgsAt (f, t) gs).length : Int) = bound) :
    Calls Try.prog 9 #[.pointer (some ⟨p, 0, none⟩), .int .i64 f, .int .i64 t, .int .i64 pick] w (DoubleNo w) := by
  have hm := meant_boxed h f t pick
  simp only [h0, if_false, ne_eq, not_false_eq_true, decide_true] at hm
  obtain ⟨a, c, hv⟩ := bagVal_len (f, t) gs
  have hl2 : ∀ W, Below w.heap.size w W → (Instr.lookup 47 (.map (some r)) (.agg #[.int .i64 f, .int .i64 t]) false).run Try.prog W = .ok (.slice a (msgsAt (f, t) gs).length c) W :=
    fun W hW => hv ▸ (h.grow hW).lookup (f, t)
  obtain ⟨c0, c1, c2, c3⟩ := h.cells
  have hcl := Grow.cells (w := w)
  have l5 := World.block_lt_of_cell? w _ c0
  dsimp only at l5
  clear hv
  generalize (msgsAt (f, t) gs).length = n at *
  generalize max pick 0 % (n : Int) = ix at *
  have hbq : ((n : Int) == bound) = true := by simpa using hb
  have H := Lib.hid hm
  clear hm h0 h hb
  go_enter Try.func9, Try.ntmps9
  go_wp2_with (first | (go_at_call 19; refine (meant_any _ _ _ _ _).mono ?_; rintro e w' ⟨rfl, rfl⟩) | (go_at_call 31; refine H.out.mono ?_; rintro e w1 ⟨rfl, hg1⟩))
  refine wp_region_pi (fun W => Below w.heap.size w W ∧ W.cell? ⟨w1.heap.size, 0, none⟩ = some (.int .i64 f) ∧ W.cell? ⟨w1.heap.size, 1, none⟩ = some (.int .i64 t))
    [(0, false), (1, false), (2, false), (3, false), (4, false), (5, false), (6, false), (7, false), (8, false), (9, false), (10, false), (11, false), (12, false), (13, false), (14, false), (15, false)] (by kernel_rfl) (by kernel_rfl) (fun c a d v w h => by cases d <;> exact h) ⟨?_, by simp, by simp⟩ ?_
  · exact hg1.trans (by (repeat (first | exact Below.refl _ _ | assumption | refine Below.drew ?_ | refine bDrewN ?_ | refine Below.setCell ?_ (by first | omega | (simp <;> omega)) _ | refine Below.alloc ?_ (by first | omega | (simp <;> omega)) _)))
  simp only [arrange, nth]
  repeat (first | (refine wpPi_quiet (v := ?_) (by rfl) (fun W hW => ?_) ?_; rotate_left; (obtain ⟨hW, hW1, hW2⟩ := hW; go_simp; with_reducible rfl); simp only [Act.put, List.setIfInBounds_toArray, List.set_cons_zero, List.set_cons_succ]) | (refine wpPi_off (by rfl) ?_; simp only [Act.put, List.setIfInBounds_toArray, List.set_cons_zero, List.set_cons_succ]))
  refine wpPi_nil ?_
  go_wp2
  go_ret
  exact ⟨rfl, hg1.trans (by (repeat (first | exact Below.refl _ _ | assumption | refine Below.drew ?_ | refine bDrewN ?_ | refine Below.setCell ?_ (by first | omega | (simp <;> omega)) _ | refine Below.alloc ?_ (by first | omega | (simp <;> omega)) _)))⟩

/-- The bag of a link that has messages. -/
theorem NetAt.bag {B : Nat} {w : World} {p r : Nat} {nodes bound now : Int} {gs : List Bag} (h : NetAt B w p r nodes bound now gs) {k : Int × Int} (h0 : (msgsAt k gs).length ≠ 0) :
    ∃ g ∈ gs, g.key = k ∧ msgsAt k gs = g.msgs ∧ bagVal k gs = g.val := by
  unfold msgsAt bagVal at *
  cases hf : gs.find? (fun g => decide (k = g.key)) with
  | none => simp [hf] at h0
  | some g =>
    have _ := h
    have h2 := List.find?_some hf
    simp only [decide_eq_true_eq] at h2
    exact ⟨g, List.mem_of_find?_eq_some hf, h2.symm, rfl, rfl⟩

/-- The message at a place of a link: its value lies in the row, and reads as its bytes. -/
theorem NetAt.msgAt {B : Nat} {w : World} {p r : Nat} {nodes bound now : Int} {gs : List Bag} (h : NetAt B w p r nodes bound now gs) {k : Int × Int} {j : Nat} (hj : j < (msgsAt k gs).length) :
    ∃ row cap m, (msgsAt k gs)[j]? = some m ∧ bagVal k gs = .slice (some ⟨row, 0, none⟩) (msgsAt k gs).length cap ∧ w.cell? ⟨row, j, none⟩ = some m.val ∧ OBytes 5 w m.val m.bytes ∧ row < w.heap.size := by
  obtain ⟨g, hg, hgk, hm, hv⟩ := h.bag (k := k) (by omega)
  obtain ⟨arr, h1, _, _, _, h5⟩ := (h.bags g hg).row
  rw [hm] at hj
  refine ⟨g.row, g.cap, g.msgs[j], ?_, ?_, ?_, ?_, lt_of_getElem? h1⟩
  · rw [hm]; simp [hj]
  · rw [hv, hm]; rfl
  · simp [World.cell?, h1, h5 j g.msgs[j] (by simp [hj])]
  · exact (h.bags g hg).msg _ (List.getElem_mem hj)

theorem oBytes_one {E : TypeId} {w : World} {v : Value} {l : List UInt8} (h : OBytes E w v l) : v.oneCell' = true := by
  rcases h with ⟨rfl, _⟩ | ⟨b, c, arr, rfl, _⟩ <;> rfl

/-- What a doubling comes to: a new message, with the bytes of the one that the pick means. -/
def DoubleYes (B : Nat) (w : World) (p r : Nat) (nodes bound now : Int) (gs : List Bag) (k : Int × Int) (bytes : List UInt8) (e : Ending) (w' : World) : Prop :=
  e = .returned (.bool true) ∧ Keep softN B w w' ∧ ∃ v gs', NetAt B w' p r nodes bound now gs' ∧ vw gs' = pushV k ⟨v, bytes⟩ (vw gs) ∧ ∀ b, blk v = some b → w.heap.size ≤ b

set_option maxHeartbeats 2000000 in
theorem double_yes {B : Nat} {w : World} {p r : Nat} {nodes bound now : Int} {gs : List Bag} (h : NetAt B w p r nodes bound now gs) (f t pick : Int) (h0 : (msgsAt (f, t) gs).length ≠ 0)
    (hb : ((msgsAt (f, t) gs).length : Int) ≠ bound) (hmax : (msgsAt (f, t) gs).length < 1000000000) (j : Nat) (hj : max pick 0 % ((msgsAt (f, t) gs).length : Int) = (j : Int)) (m : Msg) (hjm : (msgsAt (f, t) gs)[j]? = some m) (hml : m.bytes.length ≤ 140737488355328) :
    Calls Try.prog 9 #[.pointer (some ⟨p, 0, none⟩), .int .i64 f, .int .i64 t, .int .i64 pick] w (DoubleYes B w p r nodes bound now gs (f, t) m.bytes) := by
  have hm := meant_boxed h f t pick
  simp only [h0, if_false, ne_eq, not_false_eq_true, decide_true, hj] at hm
  have hjlt : j < (msgsAt (f, t) gs).length := (List.getElem?_eq_some_iff.1 hjm).1
  obtain ⟨row, cap, m0, hjm0, hv, hx0⟩ := h.msgAt hjlt
  have hl2 : ∀ W, Below w.heap.size w W → (Instr.lookup 47 (.map (some r)) (.agg #[.int .i64 f, .int .i64 t]) false).run Try.prog W = .ok (.slice (some ⟨row, 0, none⟩) (msgsAt (f, t) gs).length cap) W :=
    fun W hW => hv ▸ (h.grow hW).lookup (f, t)
  have hcellj : ∀ W, Below w.heap.size w W → W.cell? ⟨row, j, none⟩ = some m.val ∧ OBytes 5 W m.val m.bytes := fun W hW => by
    obtain ⟨row', cap', m', hm', hv', hc', ho', _⟩ := (h.grow hW).msgAt hjlt
    rw [hv] at hv'
    cases hv'
    rw [hjm] at hm'
    cases hm'
    exact ⟨hc', ho'⟩
  obtain ⟨c0, c1, c2, c3⟩ := h.cells
  have hcl := Grow.cells (w := w)
  have l5 := World.block_lt_of_cell? w _ c0
  dsimp only at l5
  have HN := Lib.hid h
  have Hmax := Lib.hid hmax
  have Hc := Lib.hid hcellj
  clear hv hjm0 hjm hcellj hj hmax hx0
  generalize hn : (msgsAt (f, t) gs).length = n at *
  have Hn := Lib.hid hn
  have hbq : ((n : Int) == bound) = false := by simpa using hb
  have hj0 : (0 : Int) ≤ (j : Int) := by omega
  have hj1 : (j : Int) < (n : Int) := by omega
  have H := Lib.hid hm
  clear hm h0 h hb hn
  go_enter Try.func9, Try.ntmps9
  go_wp2_with (first | (go_at_call 19; refine (meant_any _ _ _ _ _).mono ?_; rintro e w' ⟨rfl, rfl⟩) | (go_at_call 31; refine H.out.mono ?_; rintro e w1 ⟨rfl, hg1⟩))
  refine wp_region_pi (fun W => Below w.heap.size w W ∧ W.cell? ⟨w1.heap.size, 0, none⟩ = some (.int .i64 f) ∧ W.cell? ⟨w1.heap.size, 1, none⟩ = some (.int .i64 t))
    [(0, false), (1, false), (2, false), (3, false), (4, false), (5, false), (6, false), (7, false), (8, false), (9, false), (10, false), (11, false), (12, false), (13, false), (14, false), (15, false)] (by kernel_rfl) (by kernel_rfl) (fun c a d v w h => by cases d <;> exact h) ⟨?_, by simp, by simp⟩ ?_
  · exact hg1.trans (by (repeat (first | exact Below.refl _ _ | assumption | refine Below.drew ?_ | refine bDrewN ?_ | refine Below.setCell ?_ (by first | omega | (simp <;> omega)) _ | refine Below.alloc ?_ (by first | omega | (simp <;> omega)) _)))
  simp only [arrange, nth]
  repeat (first | (refine wpPi_quiet (v := ?_) (by rfl) (fun W hW => ?_) ?_; rotate_left; (obtain ⟨hW, hW1, hW2⟩ := hW; go_simp; with_reducible rfl); simp only [Act.put, List.setIfInBounds_toArray, List.set_cons_zero, List.set_cons_succ]) | (refine wpPi_off (by rfl) ?_; simp only [Act.put, List.setIfInBounds_toArray, List.set_cons_zero, List.set_cons_succ]))
  refine wpPi_nil ?_
  go_wp2
  -- the store
  have hgW : Grow w (w1.alloc (.cells #[.int .i64 f, .int .i64 t] 52)).drew.drew := hg1.trans (by (repeat (first | exact Below.refl _ _ | assumption | refine Below.drew ?_ | refine bDrewN ?_ | refine Below.setCell ?_ (by first | omega | (simp <;> omega)) _ | refine Below.alloc ?_ (by first | omega | (simp <;> omega)) _)))
  have hloc : (w1.alloc (.cells #[.int .i64 f, .int .i64 t] 52)).drew.drew.heap[w1.heap.size]? = some (.cells #[.int .i64 f, .int .i64 t] 52 (0, 0)) := heap_alloc_new w1 _
  refine wp_region_pi (fun W => W.cell? ⟨p, 3, none⟩ = some (.map (some r)) ∧ W.cell? ⟨w1.heap.size, 0, none⟩ = some (.int .i64 f) ∧ W.cell? ⟨w1.heap.size, 1, none⟩ = some (.int .i64 t))
    [(0, false), (1, false), (2, false), (3, false), (4, false), (5, false), (6, false), (7, false), (8, false), (9, false), (11, false), (10, true), (12, false), (13, true), (14, true), (15, true), (16, true), (17, false), (19, false), (18, true), (20, true)] (by kernel_rfl) (by kernel_rfl) (fun c a d v w h => by cases d <;> exact h) ⟨?_, by simp, by simp⟩ ?_
  · exact (hcl _ _ _ hgW l5).trans c3
  simp only [arrange, nth]
  generalize (w1.alloc (.cells #[.int .i64 f, .int .i64 t] 52)).drew.drew = W0 at *
  have hlk := hl2 _ hgW
  have hN1 := HN.out.grow hgW
  obtain ⟨hcj, hoj⟩ := Hc.out _ hgW
  have hS0 : ∀ W, Keep softN B W0 W → (W.cell? ⟨p, 3, none⟩ = some (.map (some r)) ∧ W.cell? ⟨w1.heap.size, 0, none⟩ = some (.int .i64 f) ∧ W.cell? ⟨w1.heap.size, 1, none⟩ = some (.int .i64 t)) := fun W hW =>
    ⟨hW.cell hN1.self (not_softN (by decide) _ _) rfl, hW.cell hloc (not_softN (by decide) _ _) rfl, hW.cell hloc (not_softN (by decide) _ _) rfl⟩
  have HS := Lib.hid hS0
  have Hoj := Lib.hid hoj
  have HN1 := Lib.hid hN1
  clear hoj hN1 hl2 hS0
  repeat (first | (refine wpPi_quiet (v := ?_) (by rfl) (fun W hW => ?_) ?_; rotate_left; (obtain ⟨hW1, hW2, hW3⟩ := hW; go_simp; with_reducible rfl); simp only [Act.put, List.setIfInBounds_toArray, List.set_cons_zero, List.set_cons_succ]) | (refine wpPi_off (by rfl) ?_; simp only [Act.put, List.setIfInBounds_toArray, List.set_cons_zero, List.set_cons_succ]))
  refine wpPi_act (by rfl) (fun K hK => ?_)
  go_simp
  refine hK _ _ ⟨HS.out _ (Keep.refl _ _ _), ?_⟩
  clear hK K
  try simp only [Act.put, List.setIfInBounds_toArray, List.set_cons_zero, List.set_cons_succ]
  (first | (refine wpPi_quiet (v := ?_) (by rfl) (fun W hW => ?_) ?_; rotate_left; (obtain ⟨hW1, hW2, hW3⟩ := hW; go_simp; with_reducible rfl); simp only [Act.put, List.setIfInBounds_toArray, List.set_cons_zero, List.set_cons_succ]) | (refine wpPi_off (by rfl) ?_; simp only [Act.put, List.setIfInBounds_toArray, List.set_cons_zero, List.set_cons_succ]))
  refine wpPi_act (by rfl) (fun K hK => ?_)
  go_simp
  refine hK _ _ ⟨HS.out _ (Keep.refl _ _ _), ?_⟩
  clear hK K
  try simp only [Act.put, List.setIfInBounds_toArray, List.set_cons_zero, List.set_cons_succ]
  refine wpPi_act (by rfl) (fun K hK => ?_)
  go_simp
  refine (clone_any Hoj.out.bytes hml).mono ?_
  rintro e w2 ⟨v', rfl, hob, hfr, hg2⟩
  dsimp only
  refine hK _ _ ⟨HS.out _ (Keep.ofGrow hg2 HN1.out.room), ?_⟩
  clear hK K
  try simp only [Act.put, List.setIfInBounds_toArray, List.set_cons_zero, List.set_cons_succ]
  clear hlk hcj hloc
  refine wpPi_run (by rfl) (execOp_buildSlice1 (v := v') rfl Try.underlying53 Try.info22 rfl rfl (oBytes_one hob)) (HS.out _ (Keep.ofGrow (hg2.trans (Grow.alloc _ _)) HN1.out.room)) ?_
  try simp only [Act.put, List.setIfInBounds_toArray, List.set_cons_zero, List.set_cons_succ]
  have hg3 : Grow W0 (w2.alloc (.cells #[v'] 22)) := hg2.trans (Grow.alloc _ _)
  have hnb : (w2.alloc (.cells #[v'] 22)).heap[w2.heap.size]? = some (.cells #[v'] 22 (0, 0)) := heap_alloc_new _ _
  have hob3 : OBytes 5 (w2.alloc (.cells #[v'] 22)) v' m.bytes := hob.keep fun b hb => by
    rcases hob with ⟨rfl, _⟩ | ⟨b', c, arr, rfl, h4, _⟩
    · cases hb
    · cases hb; exact heap_alloc_old _ _ (lt_of_getElem? h4)
  have hN3 := HN1.out.grow hg3
  generalize w2.alloc (.cells #[v'] 22) = W3 at *
  obtain ⟨v0, st, Wa, hr1, hKa, v1, Wb, hr2, hKb, Wc, hr3, hKc, gs', hNc, hvw⟩ := net_push hN3 (f, t) ⟨v', m.bytes⟩ hob3 (oBytes_one hob3) hnb (by rw [Hn.out]; exact Hmax.out)
  simp only [pairV] at hr1
  have HK3 : Hid (Keep softN B W0 W3) := Lib.hid (Keep.ofGrow hg3 HN1.out.room)
  have HKa := Lib.hid hKa
  have HKb := Lib.hid hKb
  have HKc := Lib.hid hKc
  have HNc := Lib.hid hNc
  have Hvw := Lib.hid hvw
  have Hr2 := Lib.hid hr2
  clear hKa hKb hKc hNc hvw hN3 hob hob3 hnb hr2
  refine wpPi_act (by rfl) (fun K hK => ?_)
  go_simp
  refine hK _ _ ⟨HS.out _ (HK3.out.trans HKa.out), ?_⟩
  clear hK K
  try simp only [Act.put, List.setIfInBounds_toArray, List.set_cons_zero, List.set_cons_succ]
  (first | (refine wpPi_quiet (v := ?_) (by rfl) (fun W hW => ?_) ?_; rotate_left; (obtain ⟨hW1, hW2, hW3⟩ := hW; go_simp; with_reducible rfl); simp only [Act.put, List.setIfInBounds_toArray, List.set_cons_zero, List.set_cons_succ]) | (refine wpPi_off (by rfl) ?_; simp only [Act.put, List.setIfInBounds_toArray, List.set_cons_zero, List.set_cons_succ]))
  (first | (refine wpPi_quiet (v := ?_) (by rfl) (fun W hW => ?_) ?_; rotate_left; (obtain ⟨hW1, hW2, hW3⟩ := hW; go_simp; with_reducible rfl); simp only [Act.put, List.setIfInBounds_toArray, List.set_cons_zero, List.set_cons_succ]) | (refine wpPi_off (by rfl) ?_; simp only [Act.put, List.setIfInBounds_toArray, List.set_cons_zero, List.set_cons_succ]))
  refine wpPi_run (by rfl) (execOp_append rfl rfl rfl Hr2.out) (HS.out _ (HK3.out.trans HKb.out)) ?_
  try simp only [Act.put, List.setIfInBounds_toArray, List.set_cons_zero, List.set_cons_succ]
  refine wpPi_act (by rfl) (fun K hK => ?_)
  go_simp
  refine hK _ _ ⟨HS.out _ (HK3.out.trans HKc.out), ?_⟩
  clear hK K
  try simp only [Act.put, List.setIfInBounds_toArray, List.set_cons_zero, List.set_cons_succ]
  refine wpPi_nil ?_
  go_wp2
  go_ret
  refine ⟨rfl, (Keep.ofGrow hgW HN.out.room).trans (HK3.out.trans HKc.out), v', gs', HNc.out, Hvw.out, fun b hb => ?_⟩
  have := hfr b hb
  have := hgW.size
  omega
end Go.Proofs.Ytbanfilgokideaa
