/- manifest.Apply, over the contract of apply. -/
import Derived.Test.YtpdbjmodgiokmaaDoorM6
import Derived.Test.YtpdbjmodgiokmaaDoorMt
namespace Go.Proofs.YtpdbjmodgiokmaaDoor
open Go.RowKit Go.Gl

/-- What is asked of a version and an edit in memory. -/
structure AArgs (w : World) (tv : Value) (V : VerD) (av dv : Value) (E : EdD) : Prop where
  own : Own 0 w tv V.tabs
  len : V.tabs.length ≤ 10000
  adds : Tabs w av E.add
  alen : E.add.length ≤ 10000
  drops : Ints w dv E.drop
  dlen : E.drop.length ≤ 10000

/-- The contract of apply. -/
def ApplyOk : Prop := ∀ (w : World) (tv : Value) (V : VerD) (av dv : Value) (E : EdD), AArgs w tv V av dv E →
  Calls Tryd.prog 12 #[.agg (verCells tv V.seq V.next V.wal), .agg (edCells av dv E.seq E.next E.wal)] w (APost w (applyD V E))

def applyAllD : VerD → List EdD → Int × VerD
  | v, [] => (0, v)
  | v, e :: r => if (applyD v e).1 = 0 then applyAllD (applyD v e).2 r else ((applyD v e).1, verZero)

/-- An edit in memory. -/
structure EdAt (w : World) (b o : Nat) (av dv : Value) (e : EdD) : Prop where
  c0 : w.cell? ⟨b, o, none⟩ = some av
  c1 : w.cell? ⟨b, o + 1, none⟩ = some dv
  c2 : w.cell? ⟨b, o + 2, none⟩ = some (.int .u64 e.seq)
  c3 : w.cell? ⟨b, o + 3, none⟩ = some (.int .i64 e.next)
  c4 : w.cell? ⟨b, o + 4, none⟩ = some (.int .i64 e.wal)
  adds : Tabs w av e.add
  drops : Ints w dv e.drop

theorem EdAt.grow {w w' : World} {b o : Nat} {av dv : Value} {e : EdD} (h : EdAt w b o av dv e) (hb : b < w.heap.size) (hg : Grow w w') : EdAt w' b o av dv e := by
  have hc : ∀ i, w'.cell? ⟨b, i, none⟩ = w.cell? ⟨b, i, none⟩ := fun i => Grow.cells _ _ _ hg hb
  exact ⟨by rw [hc]; exact h.c0, by rw [hc]; exact h.c1, by rw [hc]; exact h.c2, by rw [hc]; exact h.c3, by rw [hc]; exact h.c4, h.adds.grow hg, h.drops.grow hg⟩

/-- A row of edits in memory, each with few tables and files. -/
def Edits (w : World) (v : Value) (es : List EdD) : Prop :=
  ∃ a c, v = .slice a es.length c ∧ (es = [] ∨ ∃ b o, a = some ⟨b, o, none⟩ ∧ b < w.heap.size ∧ ∀ (i : Nat) (e : EdD), es[i]? = some e → ∃ av dv, EdAt w b (o + i * 5) av dv e)

theorem Edits.grow {w w' : World} {v : Value} {es : List EdD} (h : Edits w v es) (hg : Grow w w') : Edits w' v es := by
  obtain ⟨a, c, hv, h⟩ := h
  refine ⟨a, c, hv, ?_⟩
  rcases h with h | ⟨b, o, ha, hb, hc⟩
  · exact .inl h
  · refine .inr ⟨b, o, ha, Nat.lt_of_lt_of_le hb hg.size, fun i e he => ?_⟩
    obtain ⟨av, dv, h1⟩ := hc i e he
    exact ⟨av, dv, h1.grow hb hg⟩

theorem addsD_len : ∀ {r l l' : List Tb}, addsD l r = some l' → l'.length = l.length + r.length
  | [], l, l', h => by simp [addsD] at h; subst h; simp
  | t :: r, l, l', h => by
    unfold addsD at h
    split at h
    · cases h
    · have := addsD_len h; simp at this ⊢; omega

theorem applyD_len (v : VerD) (e : EdD) : (applyD v e).2.tabs.length ≤ v.tabs.length + e.add.length := by
  unfold applyD
  split
  · simp [verZero]
  · split
    · simp [verZero]
    · rename_i l hl
      have h1 := addsD_len hl
      have h2 : (v.tabs.filter (keepT e.drop)).length ≤ v.tabs.length := List.length_filter_le _ _
      have h3 := (sortD_perm l).length_eq
      split
      · simp [verZero]
      · split
        · simp [verZero]
        · split
          · simp [verZero]
          · dsimp only; omega

def AllInv (w : World) (V : VerD) (es : List EdD) (iv : Value) (wr : World) : Prop :=
  ∃ (i : Nat) (cv : Value) (V' : VerD), iv = .int .i64 i ∧ i ≤ es.length ∧ wr.heap[w.heap.size]? = some (.cells (verCells cv V'.seq V'.next V'.wal) 27 (0, 0)) ∧ wr.heap[w.heap.size + 1]? = some (.cells (verCells (.slice none 0 0) 0 0 0) 27 (0, 0)) ∧
    Own w.heap.size wr cv V'.tabs ∧ applyAllD V es = applyAllD V' (es.drop i) ∧ V'.tabs.length ≤ V.tabs.length + 20 * i ∧ Grow w wr

theorem set4 {w : World} {b : Nat} {x0 x1 x2 x3 : Value} (h : w.heap[b]? = some (.cells #[x0, x1, x2, x3] 27 (0, 0))) (y0 y1 y2 y3 : Value) :
    ((((w.setCell ⟨b, 0, none⟩ y0).setCell ⟨b, 1, none⟩ y1).setCell ⟨b, 2, none⟩ y2).setCell ⟨b, 3, none⟩ y3).heap[b]? = some (.cells #[y0, y1, y2, y3] 27 (0, 0)) :=
  setCell_heap (setCell_heap (setCell_heap (setCell_heap h 0 y0) 1 y1) 2 y2) 3 y3
theorem set4_other {w : World} {b c : Nat} (h : c ≠ b) (y0 y1 y2 y3 : Value) :
    ((((w.setCell ⟨b, 0, none⟩ y0).setCell ⟨b, 1, none⟩ y1).setCell ⟨b, 2, none⟩ y2).setCell ⟨b, 3, none⟩ y3).heap[c]? = w.heap[c]? := by
  rw [Below.heap_setCell _ _ _ _ h, Below.heap_setCell _ _ _ _ h, Below.heap_setCell _ _ _ _ h, Below.heap_setCell _ _ _ _ h]
theorem set4_own {B : Nat} {w : World} {v : Value} {l : List Tb} {b : Nat} {x0 x1 x2 x3 : Value} (ho : Own B w v l) (h : w.heap[b]? = some (.cells #[x0, x1, x2, x3] 27 (0, 0))) (y0 y1 y2 y3 : Value) :
    Own B ((((w.setCell ⟨b, 0, none⟩ y0).setCell ⟨b, 1, none⟩ y1).setCell ⟨b, 2, none⟩ y2).setCell ⟨b, 3, none⟩ y3) v l :=
  own_other (own_other (own_other (own_other ho h (by decide)) (setCell_heap h 0 y0) (by decide)) (setCell_heap (setCell_heap h 0 y0) 1 y1) (by decide)) (setCell_heap (setCell_heap (setCell_heap h 0 y0) 1 y1) 2 y2) (by decide)
theorem set4_below {B : Nat} {a w : World} (h : Below B a w) {b : Nat} (hb : B ≤ b) (y0 y1 y2 y3 : Value) :
    Below B a ((((w.setCell ⟨b, 0, none⟩ y0).setCell ⟨b, 1, none⟩ y1).setCell ⟨b, 2, none⟩ y2).setCell ⟨b, 3, none⟩ y3) :=
  (((h.setCell hb _).setCell hb _).setCell hb _).setCell hb _

set_option maxRecDepth 100000 in
set_option maxHeartbeats 4000000 in
theorem Apply_any (hA : ApplyOk) {B : Nat} {w : World} {tv : Value} {V : VerD} (hown : Own B w tv V.tabs) (hVl : V.tabs.length ≤ 5000) {ev : Value} {es : List EdD} (he : Edits w ev es) (hel : es.length ≤ 100) (hfew : ∀ e ∈ es, e.add.length ≤ 20 ∧ e.drop.length ≤ 20) :
    Calls Tryd.prog 6 #[.agg (verCells tv V.seq V.next V.wal), ev] w (APost w (applyAllD V es)) := by
  have hg0 : Grow w ((w.alloc (.cells (verCells tv V.seq V.next V.wal) 27)).alloc (.cells (verCells (.slice none 0 0) 0 0 0) 27)) := by (repeat (first | exact Below.refl _ _ | assumption | refine Below.drew ?_ | refine bDrewN ?_ | refine Below.setCell ?_ (by first | omega | (simp <;> omega)) _ | refine Below.alloc ?_ (by first | omega | (simp <;> omega)) _))
  have hb1 : ((w.alloc (.cells (verCells tv V.seq V.next V.wal) 27)).alloc (.cells (verCells (.slice none 0 0) 0 0 0) 27)).heap[w.heap.size]? = some (.cells (verCells tv V.seq V.next V.wal) 27 (0, 0)) := (heap_alloc_old _ _ (by simp)).trans (heap_alloc_new _ _)
  have hb2 : ((w.alloc (.cells (verCells tv V.seq V.next V.wal) 27)).alloc (.cells (verCells (.slice none 0 0) 0 0 0) 27)).heap[w.heap.size + 1]? = some (.cells (verCells (.slice none 0 0) 0 0 0) 27 (0, 0)) := by
    have := heap_alloc_new (w.alloc (.cells (verCells tv V.seq V.next V.wal) 27)) (.cells (verCells (.slice none 0 0) 0 0 0) 27)
    simpa using this
  have hap := apart_any (owns_grow hown hg0) (by omega) V.seq V.next V.wal
  obtain ⟨ta, tc, rfl⟩ := own_slice hown
  obtain ⟨ea, ec, rfl, her⟩ := he
  obtain ⟨c0, c1, c2, c3⟩ := cells4 hb1
  have l1 := lt_of_getElem? hb1
  have l2 := lt_of_getElem? hb2
  have Hap := Lib.hid hap
  have Hb1 := Lib.hid hb1
  have Hb2 := Lib.hid hb2
  have Hg0 := Lib.hid hg0
  have Her := Lib.hid her
  have HA := Lib.hid hA
  have Hfew := Lib.hid hfew
  clear hap hb1 hb2 hg0 her hA hfew hown
  go_enter Tryd.func6, Tryd.ntmps6
  go_wp2_with fail
  generalize (w.alloc (.cells (verCells (.slice ta V.tabs.length tc) V.seq V.next V.wal) 27)).alloc (.cells (verCells (.slice none 0 0) 0 0 0) 27) = W1 at *
  (with_reducible refine Hap.out.mono ?_)
  rintro e w2 ⟨cv, rfl, ho2, hg2⟩
  have k1 := hg2.heap Hb1.out
  have k2 := hg2.heap Hb2.out
  have hst : AllInv w V es (.int .i64 0) ((((w2.setCell ⟨w.heap.size, 0, none⟩ cv).setCell ⟨w.heap.size, 1, none⟩ (.int .u64 V.seq)).setCell ⟨w.heap.size, 2, none⟩ (.int .i64 V.next)).setCell ⟨w.heap.size, 3, none⟩ (.int .i64 V.wal)) :=
    ⟨0, cv, V, rfl, Nat.zero_le _, set4 k1 _ _ _ _, (set4_other (by omega) _ _ _ _).trans k2, set4_own (owns_mono ho2 Hg0.out.size) k1 _ _ _ _, rfl, by omega, set4_below (Hg0.out.trans hg2) (Nat.le_refl _) _ _ _ _⟩
  clear c0 c1 c2 c3
  obtain ⟨c0, c1, c2, c3⟩ := cells4 k1
  have f0 : ∀ i, w2.frozen? ⟨w.heap.size, i, none⟩ = false := fun i => by simp [World.frozen?, k1]
  have l3 := lt_of_getElem? k1
  obtain ⟨xa, xc, rfl⟩ := own_slice ho2
  have Hst := Lib.hid hst
  clear k1 k2 hst ho2 hg2
  go_wp2_with fail
  go_loopw [13] (fun iv wr => AllInv w V es iv wr) (fun iv _ => es.length - (intOf iv).toNat)
  case atStart => exact Hst.out
  case round =>
    obtain ⟨i, cv, V', rfl, hi, hvb, hrb, hown, hall, hlen, hg⟩ := hrel
    by_cases hlt : i < es.length
    · obtain ⟨x, hx⟩ : ∃ x, es[i]? = some x := ⟨es[i], by simp [hlt]⟩
      obtain ⟨b, o, rfl, hbl, hed⟩ : ∃ b o, ea = some ⟨b, o, none⟩ ∧ b < w.heap.size ∧ ∀ (i : Nat) (e : EdD), es[i]? = some e → ∃ av dv, EdAt w b (o + i * 5) av dv e := by
        rcases Her.out with h1 | h1
        · rw [h1] at hlt; simp at hlt
        · exact h1
      obtain ⟨av, dv, hat0⟩ := hed i x hx
      have hat := hat0.grow hbl hg
      obtain ⟨hxa, hxd⟩ := Hfew.out x (List.mem_of_getElem? hx)
      have hstep : applyAllD V' (es.drop i) = if (applyD V' x).1 = 0 then applyAllD (applyD V' x).2 (es.drop (i + 1)) else ((applyD V' x).1, verZero) := by
        obtain ⟨hi', rfl⟩ := List.getElem?_eq_some_iff.1 hx
        rw [List.drop_eq_getElem_cons hi', applyAllD]
      have hrl := applyD_len V' x
      obtain ⟨aa, ac, rfl, _⟩ := hat.adds
      obtain ⟨da, dc, rfl, _, _⟩ := hat.drops
      obtain ⟨p0, p1, p2, p3, p4, _, _⟩ := hat
      have hga : Grow wr (wr.alloc (.cells (edCells (.slice aa x.add.length ac) (.slice da x.drop.length dc) x.seq x.next x.wal) 31)) := Grow.alloc _ _
      have hcall := HA.out (wr.alloc (.cells (edCells (.slice aa x.add.length ac) (.slice da x.drop.length dc) x.seq x.next x.wal) 31)) cv V' (.slice aa x.add.length ac) (.slice da x.drop.length dc) x ⟨owns_mono (owns_grow hown hga) (Nat.zero_le _), by omega, (hat0.adds.grow hg).grow hga, by omega, (hat0.drops.grow hg).grow hga, by omega⟩
      obtain ⟨va, vc, rfl⟩ := own_slice hown
      clear c0 c1 c2 c3
      obtain ⟨c0, c1, c2, c3⟩ := cells4 hvb
      have lv := lt_of_getElem? hvb
      have lr := lt_of_getElem? hrb
      have lb : b < wr.heap.size := Nat.lt_of_lt_of_le hbl hg.size
      have hi1 : (i : Int) < (es.length : Int) := by omega
      have hi0 : (0 : Int) ≤ (i : Int) := by omega
      have Hcall := Lib.hid hcall
      have Hstep := Lib.hid hstep
      have Hall := Lib.hid hall
      have Hvb := Lib.hid hvb
      have Hrb := Lib.hid hrb
      have Hga := Lib.hid hga
      have Hg := Lib.hid hg
      clear hcall hstep hall hvb hrb hga hg hat0 hed hown hx
      generalize applyD V' x = r at *
      go_wp2_with fail
      (with_reducible refine Hcall.out.mono ?_)
      rintro e w5 ⟨v5, rfl, ho5, hg5⟩
      have k1 := hg5.heap (Hga.out.heap Hvb.out)
      have k2 := hg5.heap (Hga.out.heap Hrb.out)
      have hg05 := (Hg.out.trans Hga.out).trans hg5
      clear c0 c1 c2 c3
      obtain ⟨c0, c1, c2, c3⟩ := cells4 k1
      obtain ⟨d0, d1, d2, d3⟩ := cells4 k2
      have g0 : ∀ i, w5.frozen? ⟨w.heap.size, i, none⟩ = false := fun i => by simp [World.frozen?, k1]
      have g1 : ∀ i, w5.frozen? ⟨w.heap.size + 1, i, none⟩ = false := fun i => by simp [World.frozen?, k2]
      have l5 := lt_of_getElem? k1
      have l6 := lt_of_getElem? k2
      obtain ⟨rc, rv⟩ := r
      dsimp only at ho5 hrl Hstep
      have hB5 : w.heap.size ≤ (wr.alloc (.cells (edCells (.slice aa x.add.length ac) (.slice da x.drop.length dc) x.seq x.next x.wal) 31)).heap.size := (Hg.out.trans Hga.out).size
      by_cases hrc : rc = 0
      · subst hrc
        have Hrel : Hid (AllInv w V es (.int .i64 ((i + 1 : Nat) : Int)) ((((w5.setCell ⟨w.heap.size, 0, none⟩ v5).setCell ⟨w.heap.size, 1, none⟩ (.int .u64 rv.seq)).setCell ⟨w.heap.size, 2, none⟩ (.int .i64 rv.next)).setCell ⟨w.heap.size, 3, none⟩ (.int .i64 rv.wal))) := Lib.hid
          ⟨i + 1, v5, rv, rfl, hlt, set4 k1 _ _ _ _, (set4_other (by omega) _ _ _ _).trans k2, set4_own (owns_mono ho5 hB5) k1 _ _ _ _, by rw [Hall.out, Hstep.out, if_pos rfl], by omega, set4_below hg05 (Nat.le_refl _) _ _ _ _⟩
        obtain ⟨ya, yc, rfl⟩ := own_slice ho5
        clear ho5 hg5 hg05 k1 k2 g1 hB5
        go_wp2
        go_roundw
        case rel => exact Hrel.out
        case measure => simp [intOf]; omega
      · have Hres : Hid (applyAllD V es = (rc, verZero)) := Lib.hid (by rw [Hall.out, Hstep.out, if_neg hrc])
        have hrb : (rc != 0) = true := by simpa using hrc
        have hrb2 : (rc == 0) = false := by simpa using hrc
        have Hg05 := Lib.hid hg05
        have Hk2 := Lib.hid k2
        obtain ⟨ya, yc, rfl⟩ := own_slice ho5
        clear ho5 hg5 hg05 k1 k2 hB5 hrc
        go_wp2
        refine bodyPost_ret (results_Apply (x0 := .slice none 0 0) (x1 := .int .u64 0) (x2 := .int .i64 0) (x3 := .int .i64 0) (c := rc) rfl rfl (set4 ((set4_other (by omega) _ _ _ _).trans Hk2.out) _ _ _ _)) rfl ?_
        rw [Hres.out]
        exact ⟨_, rfl, World.ownsRow_nil _ _ _ _, set4_below (set4_below Hg05.out (Nat.le_refl _) _ _ _ _) (by omega) _ _ _ _⟩
    · obtain rfl : i = es.length := by omega
      rw [List.drop_length] at hall
      have Hres : Hid (applyAllD V es = (0, V')) := Lib.hid hall
      have Hfin : Hid (Own w.heap.size ((((wr.setCell ⟨w.heap.size + 1, 0, none⟩ cv).setCell ⟨w.heap.size + 1, 1, none⟩ (.int .u64 V'.seq)).setCell ⟨w.heap.size + 1, 2, none⟩ (.int .i64 V'.next)).setCell ⟨w.heap.size + 1, 3, none⟩ (.int .i64 V'.wal)) cv V'.tabs) := Lib.hid (set4_own hown hrb _ _ _ _)
      obtain ⟨va, vc, rfl⟩ := own_slice hown
      clear c0 c1 c2 c3
      obtain ⟨c0, c1, c2, c3⟩ := cells4 hvb
      obtain ⟨d0, d1, d2, d3⟩ := cells4 hrb
      have g1 : ∀ i, wr.frozen? ⟨w.heap.size + 1, i, none⟩ = false := fun i => by simp [World.frozen?, hrb]
      have l5 := lt_of_getElem? hvb
      have l6 := lt_of_getElem? hrb
      have Hg := Lib.hid hg
      have Hrb := Lib.hid hrb
      clear hall hvb hrb hown hg f0
      go_wp2
      refine bodyPost_ret (results_Apply (c := 0) rfl rfl (set4 Hrb.out _ _ _ _)) rfl (by
        rw [Hres.out]
        exact ⟨_, rfl, Hfin.out, set4_below Hg.out (by omega) _ _ _ _⟩)
end Go.Proofs.YtpdbjmodgiokmaaDoor
