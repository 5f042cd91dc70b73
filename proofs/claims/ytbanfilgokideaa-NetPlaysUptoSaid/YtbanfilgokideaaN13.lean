/- NetOften returns true for every slice of acts that lies in memory, and turns nothing that was there. -/
import Derived.Test.YtbanfilgokideaaN12
namespace Go.Proofs.Ytbanfilgokideaa
open Go.RowKit Go.Gl

set_option maxRecDepth 100000 in
set_option maxHeartbeats 1000000 in
theorem send_nil {B : Nat} {w : World} {p r : Nat} {nodes bound now : Int} {gs : List Bag} (h : NetAt B w p r nodes bound now gs) (f : Int) (bv : Value) (l : List UInt8) (ta : Option Addr) (tc : Nat) :
    Calls Try.prog 8 #[.pointer (some ⟨p, 0, none⟩), .int .i64 f, bv, .slice ta 0 tc] w (SendPost B w p r nodes bound now (vw gs) f l []) := by
  have HN := Lib.hid h
  clear h
  go_enter Try.func8, Try.ntmps8
  go_wp2
  go_loopw [9, 17] (fun laid i wr => laid = .int .i64 0 ∧ i = .int .i64 0 ∧ Grow w wr) (fun _ _ _ => 0)
  case atStart => exact ⟨rfl, rfl, by (repeat (first | exact Below.refl _ _ | assumption | refine Below.drew ?_ | refine bDrewN ?_ | refine Below.setCell ?_ (by first | omega | (simp <;> omega)) _ | refine Below.alloc ?_ (by first | omega | (simp <;> omega)) _))⟩
  case round =>
    obtain ⟨rfl, rfl, hg⟩ := hrel
    go_wp2
    go_ret
    exact ⟨gs, 0, [], rfl, Nat.le_refl _, HN.out.grow hg, ⟨rfl, rfl, rfl⟩, Keep.ofGrow hg HN.out.room, ⟨(fun _ h => by cases h), List.Pairwise.nil⟩⟩

set_option maxRecDepth 100000 in
set_option maxHeartbeats 1000000 in
theorem few_nil (w : World) (a : Option Addr) (c : Nat) : Calls Try.prog 11 #[.slice a 0 c] w (FewPost w []) := by
  go_enter Try.func11, Try.ntmps11
  go_wp2
  go_loopw [3, 4] (fun n i wr => n = .int .i64 0 ∧ i = .int .i64 0 ∧ Grow w wr) (fun _ _ _ => 0)
  case atStart => exact ⟨rfl, rfl, by (repeat (first | exact Below.refl _ _ | assumption | refine Below.drew ?_ | refine bDrewN ?_ | refine Below.setCell ?_ (by first | omega | (simp <;> omega)) _ | refine Below.alloc ?_ (by first | omega | (simp <;> omega)) _))⟩
  case round =>
    obtain ⟨rfl, rfl, hg⟩ := hrel
    go_wp2
    go_ret
    exact ⟨true, rfl, fun _ => ⟨by simp, by simp⟩, hg⟩

theorem few_any {w : World} {v : Value} {xs : List ActD} (h : ActsAt w v xs) (hmax : xs.length ≤ 9223372036854775807) : Calls Try.prog 11 #[v] w (FewPost w xs) := by
  obtain ⟨a, c, rfl, hx⟩ := h
  cases xs with
  | nil => exact few_nil w a c
  | cons y ys =>
    rcases hx with hx | ⟨b, o, rfl, hb, ha⟩
    · cases hx
    · exact few_some w b o c (y :: ys) hb hmax ha

theorem send_any {B : Nat} {w : World} {p r : Nat} {nodes bound now : Int} {gs : List Bag} (h : NetAt B w p r nodes bound now gs) (hbound : bound ≤ 65536) (f : Int) (bv : Value) (l : List UInt8) (hb : BytesA w bv l) (hbf : ∀ b, blk bv = some b → l ≠ [] → Firm softN B w b) (hl : l.length ≤ 140737488355328)
    {w0 : World} (hw0 : Below B w0 w) {tv : Value} {ks : List Int} (ht : Ints w0 tv ks) (hB : w0.heap.size ≤ B) (hks : ks.length ≤ 1000000000) :
    Calls Try.prog 8 #[.pointer (some ⟨p, 0, none⟩), .int .i64 f, bv, tv] w (SendPost B w p r nodes bound now (vw gs) f l ks) := by
  obtain ⟨ta, tc, rfl, ht⟩ := ht
  cases ks with
  | nil => exact send_nil h f bv l ta tc
  | cons k ks =>
    rcases ht with ht | ⟨b, o, rfl, hlt, hc⟩
    · cases ht
    · refine send_some h hbound f bv l hb hbf hl b o tc (k :: ks) hks (fun j x hx => ?_) (.inl (by omega))
      rw [hw0.cell (p := ⟨b, o + j, none⟩) (by show b < B; omega)]
      exact hc j x hx

/-- A message of one byte. -/
def OneB (m : Msg) : Prop := m.bytes.length = 1

def OftenInv (w1 : World) (p r : Nat) (n : Nat) (vin vout vi : Value) (wr : World) : Prop :=
  ∃ (i a o : Nat) (gs : List Bag), i ≤ n ∧ vin = .int .i64 a ∧ vout = .int .i64 o ∧ vi = .int .i64 i ∧ NetAt w1.heap.size wr p r 4 30 0 gs ∧ AllM OneB (vw gs) ∧ totV (vw gs) + o = a ∧ a ≤ 101 * i ∧ Below w1.heap.size w1 wr

theorem Ints.grow {w w' : World} {v : Value} {ks : List Int} (h : Ints w v ks) (hg : Grow w w') : Ints w' v ks := by
  obtain ⟨a, c, hv, h⟩ := h
  refine ⟨a, c, hv, ?_⟩
  rcases h with h | ⟨b, o, ha, hb, hc⟩
  · exact .inl h
  · refine .inr ⟨b, o, ha, Nat.lt_of_lt_of_le hb hg.size, fun j k hk => ?_⟩
    rw [Grow.cells _ _ _ hg hb]; exact hc j k hk

theorem BytesW.grow {w w' : World} {v : Value} {ks : List UInt8} (h : BytesW w v ks) (hg : Grow w w') : BytesW w' v ks := by
  obtain ⟨a, c, hv, h⟩ := h
  refine ⟨a, c, hv, ?_⟩
  rcases h with h | ⟨b, o, ha, hb, hc⟩
  · exact .inl h
  · refine .inr ⟨b, o, ha, Nat.lt_of_lt_of_le hb hg.size, fun j k hk => ?_⟩
    rw [Grow.cells _ _ _ hg hb]; exact hc j k hk

theorem ActAt.grow {w w' : World} {b o : Nat} {a : ActD} (h : ActAt w b o a) (hg : Grow w w') (hb : b < w.heap.size) : ActAt w' b o a := by
  have hc : ∀ i, w'.cell? ⟨b, i, none⟩ = w.cell? ⟨b, i, none⟩ := fun i => Grow.cells _ _ _ hg hb
  exact ⟨by rw [hc]; exact h.op, by rw [hc]; exact h.frm, by rw [hc]; exact h.to, by rw [hc]; exact h.pick, by rw [hc]; exact h.tos, by rw [hc]; exact h.bytes, h.ints.grow hg, h.len, h.kmax, h.bmax, h.bts.grow hg, h.bsn⟩

theorem ne_false {t a o : Nat} (h : t + o = a) : ((t : Int) != ((a : Int) - (o : Int))) = false := by
  simp only [bne_eq_false_iff_eq]; omega

set_option maxRecDepth 100000 in
set_option maxHeartbeats 4000000 in
theorem often_some (w : World) (ab ao c : Nat) (xs : List ActD) (hb : ab < w.heap.size) (hmax : xs.length ≤ 9223372036854775807) (ha : ∀ (i : Nat) (x : ActD), xs[i]? = some x → ActAt w ab (ao + i * 6) x) :
    Calls Try.prog 4 #[.slice (some ⟨ab, ao, none⟩) xs.length c] w (fun e w' => e = .returned (.bool true) ∧ Grow w w') := by
  have Ha := Lib.hid ha
  clear ha
  go_enter Try.func4, Try.ntmps4
  go_wp2_with fail
  (with_reducible refine (known_true _).mono ?_)
  rintro e w1 ⟨rfl, hg1⟩
  have hacts : ActsAt w1 (.slice (some ⟨ab, ao, none⟩) xs.length c) xs := ⟨_, _, rfl, .inr ⟨ab, ao, rfl, by have := hg1.size; omega, fun i x hx => (Ha.out i x hx).grow hg1 hb⟩⟩
  have Hacts := Lib.hid hacts
  clear hacts
  go_wp2_with fail
  (with_reducible refine (few_any Hacts.out hmax).mono ?_)
  rintro e w2 ⟨rb, rfl, hok, hg2⟩
  cases rb with
  | false =>
    go_wp2
    go_ret
    exact ⟨rfl, hg1.trans hg2⟩
  | true =>
    have Hok := Lib.hid (hok rfl)
    clear hok
    go_wp2_with fail
    (with_reducible refine (new_net _ _ _ (by decide) (by decide) (by decide) (by decide)).mono ?_)
    rintro e w3 ⟨p, r, rfl, hN3, hg3⟩
    have HN3 := Lib.hid hN3
    clear hN3
    go_wp2_with fail
    obtain ⟨B, hBdef⟩ : ∃ B, B = w2.heap.size := ⟨_, rfl⟩
    have hww : Grow w w2 := hg1.trans hg2
    go_loopw [5, 6, 7] (fun vin vout vi wr => OftenInv w2 p r xs.length vin vout vi wr) (fun _ _ vi _ => xs.length - (intOf vi).toNat)
    case atStart => exact ⟨0, 0, 0, [], Nat.zero_le _, rfl, rfl, rfl, HN3.out, (fun x hx => by cases hx), rfl, Nat.le_refl _, hg3⟩
    case round =>
      obtain ⟨i, a, o, gs, hi, rfl, rfl, rfl, hN, hall, htot, ha, hbel⟩ := hrel
      by_cases hlt : i < xs.length
      · obtain ⟨x, hx⟩ : ∃ x, xs[i]? = some x := ⟨xs[i], by simp [hlt]⟩
        have hwr : Grow w wr := hww.trans hbel
        have hA := (Ha.out i x hx).grow hwr hb
        obtain ⟨ta, tc, ht, _⟩ := hA.ints
        obtain ⟨ba, bc, hbb⟩ := hA.len
        have c0 := hA.op
        have c1 := hA.frm
        have c2 := hA.to
        have c3 := hA.pick
        have c4 := hA.tos
        have c5 := hA.bytes
        rw [ht] at c4
        rw [hbb] at c5
        have hk1 : (i : Int) < (xs.length : Int) := by omega
        have hk0 : (0 : Int) ≤ (i : Int) := by omega
        have hok := Hok.out
        have hi5 : i < 500 := by have := hok.1; omega
        have hxk := (hok.2 x (List.mem_of_getElem? hx)).1
        have hab2 : a ≤ 60000 := by omega
        have hob2 : o ≤ 60000 := by omega
        have hints := (Ha.out i x hx).ints
        have HN := Lib.hid hN
        have Hall0 := Lib.hid hall
        have Htot0 := Lib.hid htot
        have Hbel0 := Lib.hid hbel
        have Hints := Lib.hid hints
        have Ht := Lib.hid ht
        have lab : ab < wr.heap.size := by have := hwr.size; omega
        clear hA hN hall hbel hints hok hbb ht hx hwr
        obtain ⟨op, frm, to, pick, tos, ks, bts, bn, bs⟩ := x
        simp only at *
        by_cases ho1 : op = 1
        · subst ho1
          go_wp2_with fail
          have hgx : Grow wr ((wr.alloc (.cells #[.int .i64 1, .int .i64 frm, .int .i64 to, .int .i64 pick, .slice ta ks.length tc, .slice ba bn bc] 39)).alloc (.cells #[.int .u8 ((i : Int) % 256)] 5)) := by (repeat (first | exact Below.refl _ _ | assumption | refine Below.drew ?_ | refine bDrewN ?_ | refine Below.setCell ?_ (by first | omega | (simp <;> omega)) _ | refine Below.alloc ?_ (by first | omega | (simp <;> omega)) _))
          have hbx : ((wr.alloc (.cells #[.int .i64 1, .int .i64 frm, .int .i64 to, .int .i64 pick, .slice ta ks.length tc, .slice ba bn bc] 39)).alloc (.cells #[.int .u8 ((i : Int) % 256)] 5)).heap[wr.heap.size + 1]? = some (.cells #[.int .u8 ((i : Int) % 256)] 5 (0, 0)) := by
            have h := heap_alloc_new (wr.alloc (.cells #[.int .i64 1, .int .i64 frm, .int .i64 to, .int .i64 pick, .slice ta ks.length tc, .slice ba bn bc] 39)) (.cells #[.int .u8 ((i : Int) % 256)] 5)
            simp only [World.size_alloc] at h
            exact h
          generalize (wr.alloc (.cells #[.int .i64 1, .int .i64 frm, .int .i64 to, .int .i64 pick, .slice ta ks.length tc, .slice ba bn bc] 39)).alloc (.cells #[.int .u8 ((i : Int) % 256)] 5) = W1 at *
          obtain ⟨y, hy⟩ : ∃ y : UInt8, ((i : Int) % 256) = (y.toNat : Int) := ⟨UInt8.ofNat (i % 256), by rw [UInt8.toNat_ofNat_of_lt' (by simp [UInt8.size]; omega)]; omega⟩
          rw [hy] at hbx
          have hN1 := HN.out.grow hgx
          have hbel1 : Below w2.heap.size w2 W1 := Hbel0.out.trans (hgx.mono HN.out.room)
          have hsend := send_any hN1 (by decide) frm _ [y] (.inr (bytes_const hbx)) (fun b hb _ => by cases hb; exact firm_hard hbx (by decide)) (by simp) hbel1 (Hints.out.grow hww) (Nat.le_refl _) (by omega)
          rw [Ht.out] at hsend
          have Hsend := Lib.hid hsend
          have Hbel1 := Lib.hid hbel1
          have HN1 := Lib.hid hN1
          clear hsend hbel1 hN1 hbx hgx
          (with_reducible refine Hsend.out.mono ?_)
          rintro e wq ⟨gsq, nq, vs, rfl, hnq, hNq, hsq, hKq, _⟩
          have hst := sent_tot (p := OneB) (l := [y]) (fun v => (rfl : ([y] : List UInt8).length = 1)) (keys_net HN1.out) Hall0.out hsq
          have HNq := Lib.hid hNq
          have Hall := Lib.hid hst.2
          have Htot : Hid (totV (vw gsq) + o = a + nq) := Lib.hid (by rw [hst.1]; have := Htot0.out; omega)
          have Hbelq := Lib.hid (Hbel1.out.trans hKq.below)
          clear hNq hst hsq hKq hy
          go_wp2_with fail
          (with_reducible refine (all_any HNq.out (by have := Htot.out; omega)).mono ?_)
          rintro e w9 ⟨rfl, hg9⟩
          have Hrel : Hid (OftenInv w2 p r xs.length (.int .i64 ((a + nq : Nat) : Int)) (.int .i64 ((o : Nat) : Int)) (.int .i64 ((i + 1 : Nat) : Int)) w9) := Lib.hid ⟨i + 1, a + nq, o, gsq, hlt, rfl, rfl, rfl, HNq.out.grow hg9, Hall.out, Htot.out, by omega, Hbelq.out.trans (hg9.mono HNq.out.room)⟩
          have hne : ((totV (vw gsq) : Int) != (((a : Int) + (nq : Int)) - (o : Int))) = false := by simp only [bne_eq_false_iff_eq]; have := Htot.out; omega
          have hne2 : ((totV (vw gsq) : Int) == (((a : Int) + (nq : Int)) - (o : Int))) = true := by simp only [beq_iff_eq]; have := Htot.out; omega
          generalize totV (vw gsq) = tq at *
          go_wp2
          go_roundw
          case rel => exact Hrel.out
          case measure => simp [intOf]; omega
        · have ho1' : (op == 1) = false := by simpa using ho1
          by_cases ho2 : op = 2
          · subst ho2
            go_wp2_with fail
            have hgx : Grow wr (wr.alloc (.cells #[.int .i64 2, .int .i64 frm, .int .i64 to, .int .i64 pick, .slice ta ks.length tc, .slice ba bn bc] 39)) := by (repeat (first | exact Below.refl _ _ | assumption | refine Below.drew ?_ | refine bDrewN ?_ | refine Below.setCell ?_ (by first | omega | (simp <;> omega)) _ | refine Below.alloc ?_ (by first | omega | (simp <;> omega)) _))
            have hq8 : (wr.alloc (.cells #[.int .i64 2, .int .i64 frm, .int .i64 to, .int .i64 pick, .slice ta ks.length tc, .slice ba bn bc] 39)).heap[wr.heap.size]? = some (.cells #[.int .i64 2, .int .i64 frm, .int .i64 to, .int .i64 pick, .slice ta ks.length tc, .slice ba bn bc] 39 (0, 0)) := heap_alloc_new _ _
            generalize hW1 : wr.alloc (.cells #[.int .i64 2, .int .i64 frm, .int .i64 to, .int .i64 pick, .slice ta ks.length tc, .slice ba bn bc] 39) = W1 at *
            have hN1 := HN.out.grow hgx
            have hbel1 : Below w2.heap.size w2 W1 := Hbel0.out.trans (hgx.mono HN.out.room)
            have hmx : (msgsAt (frm, to) gs).length < 1000000000 := by rw [msgsAt_view]; have := look_le_tot (frm, to) (vw gs); have := Htot0.out; omega
            have hfull := full_of_all Hall0.out
            have HN1 := Lib.hid hN1
            have Hbel1 := Lib.hid hbel1
            have Hmx := Lib.hid hmx
            have Hfull := Lib.hid hfull
            have Hq8 := Lib.hid hq8
            have Hgx := Lib.hid hgx
            clear hgx hq8 hN1 hbel1 hmx hfull hW1
            by_cases h0 : (msgsAt (frm, to) gs).length = 0
            · (with_reducible refine (deliver_none HN1.out frm to pick h0).mono ?_)
              rintro e wq0 ⟨rfl, hgq0⟩
              have hgq : Grow W1 (wq0.alloc (.cells #[.int .i64 0, .int .i64 0, .slice none 0 0] 31)) := hgq0.trans (Grow.alloc _ _)
              obtain ⟨gsq, hgsq⟩ : ∃ g, g = gs := ⟨_, rfl⟩
              subst hgsq
              have Hall := Hall0
              have Htot := Htot0
              have HNq := Lib.hid (HN1.out.grow hgq)
              have Hbelq := Lib.hid (Hbel1.out.trans (hgq.mono HN1.out.room))
              clear hgq hgq0
              go_wp2_with fail
              (with_reducible refine (all_any HNq.out (by have := Htot.out; omega)).mono ?_)
              rintro e w9 ⟨rfl, hg9⟩
              have Hrel : Hid (OftenInv w2 p r xs.length (.int .i64 ((a : Nat) : Int)) (.int .i64 ((o : Nat) : Int)) (.int .i64 ((i + 1 : Nat) : Int)) w9) := Lib.hid ⟨i + 1, a, o, gsq, hlt, rfl, rfl, rfl, HNq.out.grow hg9, Hall.out, Htot.out, by omega, Hbelq.out.trans (hg9.mono HNq.out.room)⟩
              have hne : ((totV (vw gsq) : Int) != ((a : Int) - (o : Int))) = false := by simp only [bne_eq_false_iff_eq]; have := Htot.out; omega
              have hne2 : ((totV (vw gsq) : Int) == ((a : Int) - (o : Int))) = true := by simp only [beq_iff_eq]; have := Htot.out; omega
              generalize totV (vw gsq) = tq at *
              go_wp2
              go_roundw
              case rel => exact Hrel.out
              case measure => simp [intOf]; omega
            · obtain ⟨j, hj⟩ : ∃ j : Nat, max pick 0 % ((msgsAt (frm, to) gs).length : Int) = (j : Int) := ⟨(max pick 0 % ((msgsAt (frm, to) gs).length : Int)).toNat, by rw [Int.toNat_of_nonneg]; exact Int.emod_nonneg _ (by omega)⟩
              have hjlt : j < (msgsAt (frm, to) gs).length := by have := Int.emod_lt_of_pos (max pick 0) (show (0 : Int) < ((msgsAt (frm, to) gs).length : Int) by omega); omega
              obtain ⟨m, hm⟩ : ∃ m, (msgsAt (frm, to) gs)[j]? = some m := ⟨(msgsAt (frm, to) gs)[j], by simp [hjlt]⟩
              have hmem : (frm, to) ∈ keysV (vw gs) := List.mem_map.2 ⟨_, lookV_mem (V := vw gs) (k := (frm, to)) (by rw [← msgsAt_view]; intro e; rw [e] at hjlt; simp at hjlt), rfl⟩
              have hone : OneB m := by
                have h5 := lookV_mem (V := vw gs) (k := (frm, to)) (by rw [← msgsAt_view]; intro e; rw [e] at hjlt; simp at hjlt)
                refine (Hall0.out _ h5).2 m ?_
                rw [← msgsAt_view]; exact List.mem_of_getElem? hm
              obtain ⟨y, hy⟩ : ∃ y, m.bytes = [y] := by
                have h7 : m.bytes.length = 1 := hone
                cases hb8 : m.bytes with
                | nil => rw [hb8] at h7; cases h7
                | cons y t =>
                  cases t with
                  | nil => exact ⟨y, rfl⟩
                  | cons _ _ => rw [hb8] at h7; simp at h7
              have hob : OBytes 5 W1 m.val [y] := by
                obtain ⟨_, _, m', hm', _, _, ho, _⟩ := HN1.out.msgAt hjlt
                rw [hm] at hm'; cases hm'; rw [← hy]; exact ho
              obtain ⟨bb, cm, arrm, hmv, hbh, hbs⟩ := oBytes_form hob
              simp only [List.length_nil, Nat.zero_add] at hmv
              have hdel := deliver_some HN1.out Hfull.out frm to pick Hmx.out j hj m hm
              rw [hmv] at hdel hob
              have Hdel := Lib.hid hdel
              clear hdel hmv hbh hbs
              (with_reducible refine Hdel.out.mono ?_)
              rintro e wq0 ⟨rfl, hKq, gsq, hNq0, hVq⟩
              have hob9 := oBytes_hard hob hKq
              have hq9 := hKq.hard _ _ Hq8.out (not_softN (by decide) _ _)
              have l9 := lt_of_getElem? hq9
              have d1 : wq0.cell? ⟨wr.heap.size, 1, none⟩ = some (.int .i64 frm) := by simp [World.cell?, hq9]
              have d2 : wq0.cell? ⟨wr.heap.size, 2, none⟩ = some (.int .i64 to) := by simp [World.cell?, hq9]
              have lbb : bb < wq0.heap.size := by
                rcases hob9 with ⟨h, _⟩ | ⟨b', c', arr', h, h5, _⟩
                · cases h
                · cases h; exact lt_of_getElem? h5
              have d3 : wq0.cell? ⟨bb, 0, none⟩ = some (.int .u8 y.toNat) := by
                rcases hob9.bytes with ⟨h, _⟩ | ⟨b', o', c', h, _, h6⟩
                · cases h
                · cases h; exact h6 0 y rfl
              have hy255 : decide ((255 : Int) < (y.toNat : Int)) = false := by have := y.toNat_lt; simp; omega
              have hy256 : (y.toNat : Int) ≤ 255 := by have := y.toNat_lt; omega
              have hNq := hNq0.grow (Grow.alloc wq0 (.cells #[.int .i64 frm, .int .i64 to, .slice (some ⟨bb, 0, none⟩) 1 cm] 31))
              have HNq := Lib.hid hNq
              have Hall : Hid (AllM OneB (vw gsq)) := Lib.hid (by rw [hVq]; exact Hall0.out.take _ _)
              have Htot : Hid (totV (vw gsq) + (o + 1) = a) := Lib.hid (by
                have h5 := tot_take (keys_net HN.out) (k := (frm, to)) (j := j) (by rw [← msgsAt_view]; exact hjlt)
                rw [hVq]; have := Htot0.out; omega)
              have Hbelq := Lib.hid ((Hbel1.out.trans hKq.below).alloc (by have := HN1.out.room; have := hKq.size; omega) (.cells #[.int .i64 frm, .int .i64 to, .slice (some ⟨bb, 0, none⟩) 1 cm] 31))
              clear hNq hNq0 hKq hVq hm hj hone hmem hy hob hob9 hq9
              go_wp2_with fail
              (with_reducible refine (all_any HNq.out (by have := Htot.out; omega)).mono ?_)
              rintro e w9 ⟨rfl, hg9⟩
              have Hrel : Hid (OftenInv w2 p r xs.length (.int .i64 ((a : Nat) : Int)) (.int .i64 ((o + 1 : Nat) : Int)) (.int .i64 ((i + 1 : Nat) : Int)) w9) := Lib.hid ⟨i + 1, a, o + 1, gsq, hlt, rfl, rfl, rfl, HNq.out.grow hg9, Hall.out, Htot.out, by omega, Hbelq.out.trans (hg9.mono HNq.out.room)⟩
              have hne : ((totV (vw gsq) : Int) != ((a : Int) - ((o : Int) + 1))) = false := by simp only [bne_eq_false_iff_eq]; have := Htot.out; omega
              have hne2 : ((totV (vw gsq) : Int) == ((a : Int) - ((o : Int) + 1))) = true := by simp only [beq_iff_eq]; have := Htot.out; omega
              generalize totV (vw gsq) = tq at *
              go_wp2
              go_roundw
              case rel => exact Hrel.out
              case measure => simp [intOf]; omega
          · have ho2' : (op == 2) = false := by simpa using ho2
            by_cases ho3 : op = 3
            · subst ho3
              go_wp2_with fail
              have hgx : Grow wr (wr.alloc (.cells #[.int .i64 3, .int .i64 frm, .int .i64 to, .int .i64 pick, .slice ta ks.length tc, .slice ba bn bc] 39)) := by (repeat (first | exact Below.refl _ _ | assumption | refine Below.drew ?_ | refine bDrewN ?_ | refine Below.setCell ?_ (by first | omega | (simp <;> omega)) _ | refine Below.alloc ?_ (by first | omega | (simp <;> omega)) _))
              have hq8 : (wr.alloc (.cells #[.int .i64 3, .int .i64 frm, .int .i64 to, .int .i64 pick, .slice ta ks.length tc, .slice ba bn bc] 39)).heap[wr.heap.size]? = some (.cells #[.int .i64 3, .int .i64 frm, .int .i64 to, .int .i64 pick, .slice ta ks.length tc, .slice ba bn bc] 39 (0, 0)) := heap_alloc_new _ _
              generalize hW1 : wr.alloc (.cells #[.int .i64 3, .int .i64 frm, .int .i64 to, .int .i64 pick, .slice ta ks.length tc, .slice ba bn bc] 39) = W1 at *
              have hN1 := HN.out.grow hgx
              have hbel1 : Below w2.heap.size w2 W1 := Hbel0.out.trans (hgx.mono HN.out.room)
              have hmx : (msgsAt (frm, to) gs).length < 1000000000 := by rw [msgsAt_view]; have := look_le_tot (frm, to) (vw gs); have := Htot0.out; omega
              have hfull := full_of_all Hall0.out
              have HN1 := Lib.hid hN1
              have Hbel1 := Lib.hid hbel1
              have Hmx := Lib.hid hmx
              have Hfull := Lib.hid hfull
              have Hq8 := Lib.hid hq8
              have Hgx := Lib.hid hgx
              clear hgx hq8 hN1 hbel1 hmx hfull hW1
              by_cases h0 : (msgsAt (frm, to) gs).length = 0
              · (with_reducible refine (drop_none HN1.out frm to pick h0).mono ?_)
                rintro e wq ⟨rfl, hgq⟩
                obtain ⟨gsq, hgsq⟩ : ∃ g, g = gs := ⟨_, rfl⟩
                subst hgsq
                have Hall := Hall0
                have Htot := Htot0
                have HNq := Lib.hid (HN1.out.grow hgq)
                have Hbelq := Lib.hid (Hbel1.out.trans (hgq.mono HN1.out.room))
                go_wp2_with fail
                (with_reducible refine (all_any HNq.out (by have := Htot.out; omega)).mono ?_)
                rintro e w9 ⟨rfl, hg9⟩
                have Hrel : Hid (OftenInv w2 p r xs.length (.int .i64 ((a : Nat) : Int)) (.int .i64 ((o : Nat) : Int)) (.int .i64 ((i + 1 : Nat) : Int)) w9) := Lib.hid ⟨i + 1, a, o, gsq, hlt, rfl, rfl, rfl, HNq.out.grow hg9, Hall.out, Htot.out, by omega, Hbelq.out.trans (hg9.mono HNq.out.room)⟩
                have hne : ((totV (vw gsq) : Int) != ((a : Int) - (o : Int))) = false := by simp only [bne_eq_false_iff_eq]; have := Htot.out; omega
                have hne2 : ((totV (vw gsq) : Int) == ((a : Int) - (o : Int))) = true := by simp only [beq_iff_eq]; have := Htot.out; omega
                generalize totV (vw gsq) = tq at *
                go_wp2
                go_roundw
                case rel => exact Hrel.out
                case measure => simp [intOf]; omega
              · obtain ⟨j, hj⟩ : ∃ j : Nat, max pick 0 % ((msgsAt (frm, to) gs).length : Int) = (j : Int) := ⟨(max pick 0 % ((msgsAt (frm, to) gs).length : Int)).toNat, by rw [Int.toNat_of_nonneg]; exact Int.emod_nonneg _ (by omega)⟩
                have hjlt : j < (msgsAt (frm, to) gs).length := by have := Int.emod_lt_of_pos (max pick 0) (show (0 : Int) < ((msgsAt (frm, to) gs).length : Int) by omega); omega
                obtain ⟨m, hm⟩ : ∃ m, (msgsAt (frm, to) gs)[j]? = some m := ⟨(msgsAt (frm, to) gs)[j], by simp [hjlt]⟩
                have hmem : (frm, to) ∈ keysV (vw gs) := List.mem_map.2 ⟨_, lookV_mem (V := vw gs) (k := (frm, to)) (by rw [← msgsAt_view]; intro e; rw [e] at hjlt; simp at hjlt), rfl⟩
                have hone : OneB m := by
                  have h5 := lookV_mem (V := vw gs) (k := (frm, to)) (by rw [← msgsAt_view]; intro e; rw [e] at hjlt; simp at hjlt)
                  refine (Hall0.out _ h5).2 m ?_
                  rw [← msgsAt_view]; exact List.mem_of_getElem? hm
                (with_reducible refine (drop_some HN1.out Hfull.out frm to pick Hmx.out j hj m hm).mono ?_)
                rintro e wq ⟨rfl, hKq, gsq, hNq, hVq⟩
                have HNq := Lib.hid hNq
                have Hall : Hid (AllM OneB (vw gsq)) := Lib.hid (by rw [hVq]; exact Hall0.out.take _ _)
                have Htot : Hid (totV (vw gsq) + (o + 1) = a) := Lib.hid (by
                  have h5 := tot_take (keys_net HN.out) (k := (frm, to)) (j := j) (by rw [← msgsAt_view]; exact hjlt)
                  rw [hVq]; have := Htot0.out; omega)
                have Hbelq := Lib.hid (Hbel1.out.trans hKq.below)
                clear hNq hKq hVq hm hj hone hmem
                go_wp2_with fail
                (with_reducible refine (all_any HNq.out (by have := Htot.out; omega)).mono ?_)
                rintro e w9 ⟨rfl, hg9⟩
                have Hrel : Hid (OftenInv w2 p r xs.length (.int .i64 ((a : Nat) : Int)) (.int .i64 ((o + 1 : Nat) : Int)) (.int .i64 ((i + 1 : Nat) : Int)) w9) := Lib.hid ⟨i + 1, a, o + 1, gsq, hlt, rfl, rfl, rfl, HNq.out.grow hg9, Hall.out, Htot.out, by omega, Hbelq.out.trans (hg9.mono HNq.out.room)⟩
                have hne : ((totV (vw gsq) : Int) != ((a : Int) - ((o : Int) + 1))) = false := by simp only [bne_eq_false_iff_eq]; have := Htot.out; omega
                have hne2 : ((totV (vw gsq) : Int) == ((a : Int) - ((o : Int) + 1))) = true := by simp only [beq_iff_eq]; have := Htot.out; omega
                generalize totV (vw gsq) = tq at *
                go_wp2
                go_roundw
                case rel => exact Hrel.out
                case measure => simp [intOf]; omega
            · have ho3' : (op == 3) = false := by simpa using ho3
              by_cases ho4 : op = 4
              · subst ho4
                go_wp2_with fail
                have hgx : Grow wr (wr.alloc (.cells #[.int .i64 4, .int .i64 frm, .int .i64 to, .int .i64 pick, .slice ta ks.length tc, .slice ba bn bc] 39)) := by (repeat (first | exact Below.refl _ _ | assumption | refine Below.drew ?_ | refine bDrewN ?_ | refine Below.setCell ?_ (by first | omega | (simp <;> omega)) _ | refine Below.alloc ?_ (by first | omega | (simp <;> omega)) _))
                have hq8 : (wr.alloc (.cells #[.int .i64 4, .int .i64 frm, .int .i64 to, .int .i64 pick, .slice ta ks.length tc, .slice ba bn bc] 39)).heap[wr.heap.size]? = some (.cells #[.int .i64 4, .int .i64 frm, .int .i64 to, .int .i64 pick, .slice ta ks.length tc, .slice ba bn bc] 39 (0, 0)) := heap_alloc_new _ _
                generalize hW1 : wr.alloc (.cells #[.int .i64 4, .int .i64 frm, .int .i64 to, .int .i64 pick, .slice ta ks.length tc, .slice ba bn bc] 39) = W1 at *
                have hN1 := HN.out.grow hgx
                have hbel1 : Below w2.heap.size w2 W1 := Hbel0.out.trans (hgx.mono HN.out.room)
                have hmx : (msgsAt (frm, to) gs).length < 1000000000 := by rw [msgsAt_view]; have := look_le_tot (frm, to) (vw gs); have := Htot0.out; omega
                have hfull := full_of_all Hall0.out
                have HN1 := Lib.hid hN1
                have Hbel1 := Lib.hid hbel1
                have Hmx := Lib.hid hmx
                have Hfull := Lib.hid hfull
                have Hq8 := Lib.hid hq8
                have Hgx := Lib.hid hgx
                clear hgx hq8 hN1 hbel1 hmx hfull hW1
                by_cases h0 : (msgsAt (frm, to) gs).length = 0
                · (with_reducible refine (double_none HN1.out frm to pick h0).mono ?_)
                  rintro e wq ⟨rfl, hgq⟩
                  obtain ⟨gsq, hgsq⟩ : ∃ g, g = gs := ⟨_, rfl⟩
                  subst hgsq
                  have Hall := Hall0
                  have Htot := Htot0
                  have HNq := Lib.hid (HN1.out.grow hgq)
                  have Hbelq := Lib.hid (Hbel1.out.trans (hgq.mono HN1.out.room))
                  go_wp2_with fail
                  (with_reducible refine (all_any HNq.out (by have := Htot.out; omega)).mono ?_)
                  rintro e w9 ⟨rfl, hg9⟩
                  have Hrel : Hid (OftenInv w2 p r xs.length (.int .i64 ((a : Nat) : Int)) (.int .i64 ((o : Nat) : Int)) (.int .i64 ((i + 1 : Nat) : Int)) w9) := Lib.hid ⟨i + 1, a, o, gsq, hlt, rfl, rfl, rfl, HNq.out.grow hg9, Hall.out, Htot.out, by omega, Hbelq.out.trans (hg9.mono HNq.out.room)⟩
                  have hne : ((totV (vw gsq) : Int) != ((a : Int) - (o : Int))) = false := by simp only [bne_eq_false_iff_eq]; have := Htot.out; omega
                  have hne2 : ((totV (vw gsq) : Int) == ((a : Int) - (o : Int))) = true := by simp only [beq_iff_eq]; have := Htot.out; omega
                  generalize totV (vw gsq) = tq at *
                  go_wp2
                  go_roundw
                  case rel => exact Hrel.out
                  case measure => simp [intOf]; omega
                · by_cases h30 : ((msgsAt (frm, to) gs).length : Int) = 30
                  · (with_reducible refine (double_full HN1.out frm to pick h0 h30).mono ?_)
                    rintro e wq ⟨rfl, hgq⟩
                    obtain ⟨gsq, hgsq⟩ : ∃ g, g = gs := ⟨_, rfl⟩
                    subst hgsq
                    have Hall := Hall0
                    have Htot := Htot0
                    have HNq := Lib.hid (HN1.out.grow hgq)
                    have Hbelq := Lib.hid (Hbel1.out.trans (hgq.mono HN1.out.room))
                    go_wp2_with fail
                    (with_reducible refine (all_any HNq.out (by have := Htot.out; omega)).mono ?_)
                    rintro e w9 ⟨rfl, hg9⟩
                    have Hrel : Hid (OftenInv w2 p r xs.length (.int .i64 ((a : Nat) : Int)) (.int .i64 ((o : Nat) : Int)) (.int .i64 ((i + 1 : Nat) : Int)) w9) := Lib.hid ⟨i + 1, a, o, gsq, hlt, rfl, rfl, rfl, HNq.out.grow hg9, Hall.out, Htot.out, by omega, Hbelq.out.trans (hg9.mono HNq.out.room)⟩
                    have hne : ((totV (vw gsq) : Int) != ((a : Int) - (o : Int))) = false := by simp only [bne_eq_false_iff_eq]; have := Htot.out; omega
                    have hne2 : ((totV (vw gsq) : Int) == ((a : Int) - (o : Int))) = true := by simp only [beq_iff_eq]; have := Htot.out; omega
                    generalize totV (vw gsq) = tq at *
                    go_wp2
                    go_roundw
                    case rel => exact Hrel.out
                    case measure => simp [intOf]; omega
                  · obtain ⟨j, hj⟩ : ∃ j : Nat, max pick 0 % ((msgsAt (frm, to) gs).length : Int) = (j : Int) := ⟨(max pick 0 % ((msgsAt (frm, to) gs).length : Int)).toNat, by rw [Int.toNat_of_nonneg]; exact Int.emod_nonneg _ (by omega)⟩
                    have hjlt : j < (msgsAt (frm, to) gs).length := by have := Int.emod_lt_of_pos (max pick 0) (show (0 : Int) < ((msgsAt (frm, to) gs).length : Int) by omega); omega
                    obtain ⟨m, hm⟩ : ∃ m, (msgsAt (frm, to) gs)[j]? = some m := ⟨(msgsAt (frm, to) gs)[j], by simp [hjlt]⟩
                    have hmem : (frm, to) ∈ keysV (vw gs) := List.mem_map.2 ⟨_, lookV_mem (V := vw gs) (k := (frm, to)) (by rw [← msgsAt_view]; intro e; rw [e] at hjlt; simp at hjlt), rfl⟩
                    have hone : OneB m := by
                      have h5 := lookV_mem (V := vw gs) (k := (frm, to)) (by rw [← msgsAt_view]; intro e; rw [e] at hjlt; simp at hjlt)
                      refine (Hall0.out _ h5).2 m ?_
                      rw [← msgsAt_view]; exact List.mem_of_getElem? hm
                    have h6 : m.bytes.length ≤ 140737488355328 := by have h7 : m.bytes.length = 1 := hone; omega
                    (with_reducible refine (double_yes HN1.out frm to pick h0 h30 Hmx.out j hj m hm h6).mono ?_)
                    rintro e wq ⟨rfl, hKq, vq, gsq, hNq, hVq, _⟩
                    have HNq := Lib.hid hNq
                    have Hall : Hid (AllM OneB (vw gsq)) := Lib.hid (by rw [hVq]; exact Hall0.out.push _ hone)
                    have Htot : Hid (totV (vw gsq) + o = a + 1) := Lib.hid (by rw [hVq, tot_push (keys_net HN.out)]; have := Htot0.out; omega)
                    have Hbelq := Lib.hid (Hbel1.out.trans hKq.below)
                    clear hNq hKq hVq hm hj hone hmem
                    go_wp2_with fail
                    (with_reducible refine (all_any HNq.out (by have := Htot.out; omega)).mono ?_)
                    rintro e w9 ⟨rfl, hg9⟩
                    have Hrel : Hid (OftenInv w2 p r xs.length (.int .i64 ((a + 1 : Nat) : Int)) (.int .i64 ((o : Nat) : Int)) (.int .i64 ((i + 1 : Nat) : Int)) w9) := Lib.hid ⟨i + 1, a + 1, o, gsq, hlt, rfl, rfl, rfl, HNq.out.grow hg9, Hall.out, Htot.out, by omega, Hbelq.out.trans (hg9.mono HNq.out.room)⟩
                    have hne : ((totV (vw gsq) : Int) != (((a : Int) + 1) - (o : Int))) = false := by simp only [bne_eq_false_iff_eq]; have := Htot.out; omega
                    have hne2 : ((totV (vw gsq) : Int) == (((a : Int) + 1) - (o : Int))) = true := by simp only [beq_iff_eq]; have := Htot.out; omega
                    generalize totV (vw gsq) = tq at *
                    go_wp2
                    go_roundw
                    case rel => exact Hrel.out
                    case measure => simp [intOf]; omega
              · have ho4' : (op == 4) = false := by simpa using ho4
                obtain ⟨gsq, hgsq⟩ : ∃ g, g = gs := ⟨_, rfl⟩
                subst hgsq
                have Hall := Hall0
                have Htot := Htot0
                have hgq : Grow wr (wr.alloc (.cells #[.int .i64 op, .int .i64 frm, .int .i64 to, .int .i64 pick, .slice ta ks.length tc, .slice ba bn bc] 39)) := by (repeat (first | exact Below.refl _ _ | assumption | refine Below.drew ?_ | refine bDrewN ?_ | refine Below.setCell ?_ (by first | omega | (simp <;> omega)) _ | refine Below.alloc ?_ (by first | omega | (simp <;> omega)) _))
                have HNq := Lib.hid (HN.out.grow hgq)
                have Hbelq : Hid (Below w2.heap.size w2 (wr.alloc (.cells #[.int .i64 op, .int .i64 frm, .int .i64 to, .int .i64 pick, .slice ta ks.length tc, .slice ba bn bc] 39))) := Lib.hid (Hbel0.out.trans (hgq.mono HN.out.room))
                clear hgq
                go_wp2_with fail
                (with_reducible refine (all_any HNq.out (by have := Htot.out; omega)).mono ?_)
                rintro e w9 ⟨rfl, hg9⟩
                have Hrel : Hid (OftenInv w2 p r xs.length (.int .i64 ((a : Nat) : Int)) (.int .i64 ((o : Nat) : Int)) (.int .i64 ((i + 1 : Nat) : Int)) w9) := Lib.hid ⟨i + 1, a, o, gsq, hlt, rfl, rfl, rfl, HNq.out.grow hg9, Hall.out, Htot.out, by omega, Hbelq.out.trans (hg9.mono HNq.out.room)⟩
                have hne : ((totV (vw gsq) : Int) != ((a : Int) - (o : Int))) = false := by simp only [bne_eq_false_iff_eq]; have := Htot.out; omega
                have hne2 : ((totV (vw gsq) : Int) == ((a : Int) - (o : Int))) = true := by simp only [beq_iff_eq]; have := Htot.out; omega
                generalize totV (vw gsq) = tq at *
                go_wp2
                go_roundw
                case rel => exact Hrel.out
                case measure => simp [intOf]; omega
      · have Hend : Hid (Grow w wr) := Lib.hid (hww.trans hbel)
        clear hN hall hbel
        go_wp2
        go_ret
        exact ⟨rfl, Hend.out⟩

set_option maxRecDepth 100000 in
set_option maxHeartbeats 4000000 in
theorem often_nil (w : World) (a : Option Addr) (c : Nat) : Calls Try.prog 4 #[.slice a 0 c] w (fun e w' => e = .returned (.bool true) ∧ Grow w w') := by
  go_enter Try.func4, Try.ntmps4
  go_wp2_with fail
  (with_reducible refine (known_true _).mono ?_)
  rintro e w1 ⟨rfl, hg1⟩
  go_wp2_with fail
  (with_reducible refine (few_nil _ _ _).mono ?_)
  rintro e w2 ⟨rb, rfl, hok, hg2⟩
  clear hok
  cases rb with
  | false =>
    go_wp2
    go_ret
    exact ⟨rfl, hg1.trans hg2⟩
  | true =>
    go_wp2_with fail
    (with_reducible refine (new_net _ _ _ (by decide) (by decide) (by decide) (by decide)).mono ?_)
    rintro e w3 ⟨p, r, rfl, hN3, hg3⟩
    clear hN3
    go_wp2_with fail
    go_loopw [5, 6, 7] (fun vin vout vi wr => vin = .int .i64 0 ∧ vout = .int .i64 0 ∧ vi = .int .i64 0 ∧ Grow w wr) (fun _ _ _ _ => 0)
    case atStart => exact ⟨rfl, rfl, rfl, (hg1.trans hg2).trans hg3⟩
    case round =>
      obtain ⟨rfl, rfl, rfl, hg⟩ := hrel
      go_wp2
      go_ret
      exact ⟨rfl, hg⟩

theorem often_any {w : World} {v : Value} {xs : List ActD} (h : ActsAt w v xs) (hmax : xs.length ≤ 9223372036854775807) : Calls Try.prog 4 #[v] w (fun e w' => e = .returned (.bool true) ∧ Grow w w') := by
  obtain ⟨a, c, rfl, hx⟩ := h
  cases xs with
  | nil => exact often_nil w a c
  | cons y ys =>
    rcases hx with hx | ⟨b, o, rfl, hb, ha⟩
    · cases hx
    · exact often_some w b o c (y :: ys) hb hmax ha
end Go.Proofs.Ytbanfilgokideaa
