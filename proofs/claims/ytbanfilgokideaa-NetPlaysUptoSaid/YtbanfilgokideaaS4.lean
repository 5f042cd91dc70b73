/- net.Clear: the links from and to a node are struck out, all others stay. -/
import Derived.Test.YtbanfilgokideaaS1
namespace Go.Proofs.Ytbanfilgokideaa
open Go.RowKit Go.Gl

/-- A link that is neither from nor to a node. -/
def offK (x : Int) (k : Int × Int) : Bool := !decide (k.1 = x) && !decide (k.2 = x)
def clearV (x : Int) (V : View) : View := V.filter fun y => offK x y.1

def stays (x : Int) (seen : Array Nat) (g : Bag) : Bool := offK x g.key || !seen.contains g.born

theorem NetSame.iter {w w1 : World} {it : Nat} {m : Option Nat} {a b : Nat} {s : Array Nat} (hit : w.heap[it]? = some (.mapIter m a s b)) (hgr : w.grownBy w1 (some it)) : NetSame w w1 := by
  refine ⟨hgr.size, fun k o hk ho => ?_⟩
  rw [hgr.block k (lt_of_getElem? hk) (fun e => ?_), hk]
  have e1 : k = it := Option.some.inj e
  rw [e1, hit] at hk
  cases hk
  rcases ho with ⟨_, _, e⟩ | ⟨_, _, _, e, _⟩ <;> cases e

theorem Keep.iter {B : Nat} {w w1 : World} {it : Nat} (hB : B ≤ it) (hgr : w.grownBy w1 (some it)) (hBs : B ≤ w.heap.size) : Below B w w1 :=
  ⟨hgr.os, hgr.tape, hgr.output, hgr.size, fun k hk => hgr.block k (by omega) (fun e => by have := Option.some.inj e; omega)⟩

def ClearInv (B : Nat) (w : World) (p r : Nat) (nodes bound now : Int) (gs : List Bag) (x : Int) (c : Nat) (wr : World) : Prop :=
  ∃ (seen : Array Nat) (c0 : Nat), NetAt B wr p r nodes bound now (gs.filter (stays x seen)) ∧ MapAt wr r pairV ((gs.filter (stays x seen)).map Bag.ent) c ∧ wr.heap[w.heap.size]? = some (.mapIter (some r) c seen c0) ∧ c ≤ c0 ∧ Keep softN B w wr

def Cleared (B : Nat) (w : World) (p r : Nat) (nodes bound now : Int) (gs : List Bag) (x : Int) (e : Ending) (w' : World) : Prop :=
  e = .returned (.tuple #[]) ∧ Keep softN B w w' ∧ ∃ gs', NetAt B w' p r nodes bound now gs' ∧ vw gs' = clearV x (vw gs)

theorem stays_push_kept {x : Int} {seen : Array Nat} {gs : List Bag} (hb : (gs.map Bag.born).Nodup) {g : Bag} (hg : g ∈ gs) (hk : offK x g.key = true) : gs.filter (stays x (seen.push g.born)) = gs.filter (stays x seen) := by
  apply List.filter_congr
  intro y hy
  unfold stays
  by_cases hyb : y.born = g.born
  · have : y = g := by
      obtain ⟨i, hi⟩ := List.mem_iff_getElem?.1 hy
      obtain ⟨j, hj⟩ := List.mem_iff_getElem?.1 hg
      have : i = j := nodup_idx hb (x := y.born) (by simp [hi]) (by simp [hj, hyb])
      subst this
      exact Option.some.inj (hi.symm.trans hj)
    subst this
    simp [hk]
  · simp [hyb]

theorem stays_push_gone {x : Int} {seen : Array Nat} {gs : List Bag} (hb : (gs.map Bag.born).Nodup) (hkn : (gs.map Bag.key).Nodup) {g : Bag} (hg : g ∈ gs) (hk : offK x g.key = false) : gs.filter (stays x (seen.push g.born)) = (gs.filter (stays x seen)).filter fun y => decide (g.key ≠ y.key) := by
  rw [List.filter_filter]
  apply List.filter_congr
  intro y hy
  unfold stays
  by_cases hyb : y.born = g.born
  · have : y = g := by
      obtain ⟨i, hi⟩ := List.mem_iff_getElem?.1 hy
      obtain ⟨j, hj⟩ := List.mem_iff_getElem?.1 hg
      have : i = j := nodup_idx hb (x := y.born) (by simp [hi]) (by simp [hj, hyb])
      subst this
      exact Option.some.inj (hi.symm.trans hj)
    subst this
    simp [hk]
  · have hne : g.key ≠ y.key := fun e => hyb (by rw [key_inj hkn hg hy e])
    simp [hyb, hne]

/-- A link is struck out; the map's clock stays. -/
theorem net_delete2 {B : Nat} {w : World} {p r : Nat} {nodes bound now : Int} {gs : List Bag} {c : Nat} (h : NetAt B w p r nodes bound now gs) (hm : MapAt w r pairV (gs.map Bag.ent) c) (k : Int × Int) :
    ∃ W2, (Builtin.delete_ #[47, 52] 0 #[.map (some r), pairV k]).run Try.prog w = .ok (.tuple #[]) W2 ∧ Keep softN B w W2 ∧
      NetAt B W2 p r nodes bound now (gs.filter fun x => decide (k ≠ x.key)) ∧ MapAt W2 r pairV ((gs.filter fun x => decide (k ≠ x.key)).map Bag.ent) c := by
  obtain ⟨c', hmap, hborn⟩ := h.map
  have hc : c' = c := by
    have h1 : w.heap[r]? = _ := hmap
    have h2 : w.heap[r]? = _ := hm
    rw [h1] at h2
    cases h2; rfl
  subst hc
  have hrun := run_delete (P := Try.prog) (ty := 0) (kt' := 52) keyOk52 Try.underlying47 hmap (by rw [ent_keys]; exact h.keys) k
  have hl : (gs.map Bag.ent).filter (fun e => decide (k ≠ e.key)) = (gs.filter fun x => decide (k ≠ x.key)).map Bag.ent := by rw [List.filter_map]; rfl
  refine ⟨_, hrun, Keep.setO hmap (softN_map _ _) h.base, ?_, ?_⟩
  · refine netAt_setO h.self hmap h.base _ c' ?_ ?_ ?_ ?_ ?_ _ hl
    · exact fun x hx => hborn x (List.mem_filter.1 hx).1
    · exact h.keys.sublist (List.filter_sublist.map _)
    · exact h.borns.sublist (List.filter_sublist.map _)
    · exact h.rows.sublist (List.filter_sublist.map _)
    · exact fun x hx => h.bags x (List.mem_filter.1 hx).1
  · show (setO w r _).heap[r]? = _
    rw [setO_same (lt_of_getElem? hmap), hl]

set_option maxRecDepth 100000 in
set_option maxHeartbeats 2000000 in
theorem clear_any {B : Nat} {w : World} {p r : Nat} {nodes bound now : Int} {gs : List Bag} (h : NetAt B w p r nodes bound now gs) (x : Int) :
    Calls Try.prog 25 #[.pointer (some ⟨p, 0, none⟩), .int .i64 x] w (Cleared B w p r nodes bound now gs x) := by
  obtain ⟨c, hm, hborn⟩ := h.map
  have hrange := run_range_map (P := Try.prog) w 47 52 53 r _ c Try.underlying47 hm
  obtain ⟨c0, c1, c2, c3⟩ := h.cells
  have hroom := h.room
  have hrs : w.heap.size ≠ r := by have := lt_of_getElem? hm; omega
  have Hm := Lib.hid hm
  have H := Lib.hid h
  have Hborn := Lib.hid hborn
  clear h hborn hm
  go_enter Try.func25, Try.ntmps25
  go_wp2
  clear hrange
  go_loopw [] (fun wr => ClearInv B w p r nodes bound now gs x c wr) (fun wr => iterLeft r w.heap.size wr)
  case atStart =>
    have hall : gs.filter (stays x #[]) = gs := List.filter_eq_self.2 (by simp [stays])
    refine ⟨#[], c, ?_, ?_, heap_alloc_new w _, Nat.le_refl _, Keep.ofGrow (by (repeat (first | exact Below.refl _ _ | assumption | refine Below.drew ?_ | refine bDrewN ?_ | refine Below.setCell ?_ (by first | omega | (simp <;> omega)) _ | refine Below.alloc ?_ (by first | omega | (simp <;> omega)) _))) hroom⟩
    · rw [hall]; exact H.out.grow (by (repeat (first | exact Below.refl _ _ | assumption | refine Below.drew ?_ | refine bDrewN ?_ | refine Below.setCell ?_ (by first | omega | (simp <;> omega)) _ | refine Below.alloc ?_ (by first | omega | (simp <;> omega)) _)))
    · rw [hall]; exact Grow.heap (w := w) (by (repeat (first | exact Below.refl _ _ | assumption | refine Below.drew ?_ | refine bDrewN ?_ | refine Below.setCell ?_ (by first | omega | (simp <;> omega)) _ | refine Below.alloc ?_ (by first | omega | (simp <;> omega)) _))) Hm.out
  case round =>
    obtain ⟨seen, c0', hN, hmr, hit, hcc, hK⟩ := hrel
    have hleft := iterLeft_eq hit hmr
    have hnb : (((gs.filter (stays x seen)).map Bag.ent).map Ent.born).Nodup := by rw [ent_borns]; exact hN.borns
    have hold : ∀ e ∈ (gs.filter (stays x seen)).map Bag.ent, e.born < c := fun e he => by
      obtain ⟨y, hy, rfl⟩ := List.mem_map.1 he
      exact Hborn.out y (List.mem_filter.1 hy).1
    rcases run_next (P := Try.prog) (enc := pairV) 0 hit hmr hold hcc hrs hnb with ⟨h1, h2⟩ | ⟨e, w1, he, hrun, hent, hit1, hgr, hsz⟩
    · have hend : gs.filter (stays x seen) = gs.filter (fun g => offK x g.key) := by
        apply List.filter_congr
        intro g hg
        unfold stays
        by_cases hs : seen.contains g.born = true
        · simp only [hs, Bool.not_true, Bool.or_false]
        · exfalso
          have h3 : g.ent ∈ unmet seen ((gs.filter (stays x seen)).map Bag.ent) := by
            refine List.mem_filter.2 ⟨List.mem_map_of_mem (List.mem_filter.2 ⟨hg, ?_⟩), ?_⟩
            · simp only [Bool.not_eq_true] at hs
              show (offK x g.key || !seen.contains g.born) = true
              rw [hs]; simp
            · simp only [Bool.not_eq_true] at hs
              show (!seen.contains g.born) = true
              rw [hs]; rfl
          rw [h1] at h3; cases h3
      rw [hend] at hN
      have Hfin : Hid (Cleared B w p r nodes bound now gs x (.returned (.tuple #[])) wr) := Lib.hid ⟨rfl, hK, _, hN, by unfold clearV vw; rw [List.filter_map]; rfl⟩
      clear h1 hend hleft hnb hold hN hmr hit hK
      go_wp2
      go_end0
      exact Hfin.out
    · have hmem := (List.mem_filter.1 he).1
      obtain ⟨g, hg, rfl⟩ := List.mem_map.1 hmem
      have hgg := (List.mem_filter.1 hg).1
      have hN1 := hN.same (NetSame.iter hit hgr)
      have hm1 : MapAt w1 r pairV ((gs.filter (stays x seen)).map Bag.ent) c := (hgr.block r (lt_of_getElem? hmr) (fun e => hrs (Option.some.inj e).symm)).trans hmr
      have hK1 : Keep softN B w w1 := ⟨hK.below.trans (Keep.iter (by have := hroom; omega) hgr hN.room), fun b o hb ho => by
        have h4 := hK.hard b o hb ho
        rw [hgr.block b (lt_of_getElem? h4) (fun e => ?_), h4]
        have := lt_of_getElem? hb
        have := Option.some.inj e
        omega⟩
      have hless : (unmet (seen.push g.born) ((gs.filter (stays x seen)).map Bag.ent)).length < (unmet seen ((gs.filter (stays x seen)).map Bag.ent)).length := by
        rw [unmet_push]
        refine Nat.lt_of_le_of_ne (List.length_filter_le _ _) fun h4 => ?_
        have := (List.length_filter_eq_length_iff.1 h4) _ he
        simp [Bag.ent] at this
      obtain ⟨⟨k1, k2⟩, born, row, cap, msgs⟩ := g
      simp only [Bag.ent, Bag.val, pairV] at hrun hent
      obtain ⟨d0, d1, d2, d3⟩ := hN1.cells
      have hpw1 := lt_of_getElem? hN1.self
      have hb : (w1.alloc (.cells #[.int .i64 k1, .int .i64 k2] 52)).heap[w1.heap.size]? = some (.cells #[.int .i64 k1, .int .i64 k2] 52 (0, 0)) := heap_alloc_new _ _
      have hgB : Grow w1 (w1.alloc (.cells #[.int .i64 k1, .int .i64 k2] 52)) := by (repeat (first | exact Below.refl _ _ | assumption | refine Below.drew ?_ | refine bDrewN ?_ | refine Below.setCell ?_ (by first | omega | (simp <;> omega)) _ | refine Below.alloc ?_ (by first | omega | (simp <;> omega)) _))
      have Hleft := Lib.hid hleft
      have Hless := Lib.hid hless
      by_cases ho : offK x (k1, k2) = true
      · have hst := stays_push_kept (seen := seen) H.out.borns hgg ho
        have Hrel : Hid (ClearInv B w p r nodes bound now gs x c (w1.alloc (.cells #[.int .i64 k1, .int .i64 k2] 52))) := Lib.hid ⟨seen.push born, c, by rw [hst]; exact hN1.grow hgB, by rw [hst]; exact hgB.heap hm1, hgB.heap hit1, Nat.le_refl _, hK1.trans (Keep.ofGrow hgB hN1.room)⟩
        have Hmeas : Hid (iterLeft r w.heap.size (w1.alloc (.cells #[.int .i64 k1, .int .i64 k2] 52)) < iterLeft r w.heap.size wr) := Lib.hid (by
          rw [iterLeft_eq (hgB.heap hit1) (show MapAt _ r pairV ((gs.filter (stays x seen)).map Bag.ent) c from hgB.heap hm1), hleft]; exact hless)
        have ho1 : (k1 == x) = false := by simp only [offK, Bool.and_eq_true, Bool.not_eq_true', decide_eq_false_iff_not] at ho; simpa using ho.1
        have ho2 : (k2 == x) = false := by simp only [offK, Bool.and_eq_true, Bool.not_eq_true', decide_eq_false_iff_not] at ho; simpa using ho.2
        clear hN hmr hit hK hnb hold he hmem hg hgg hN1 hm1 hK1 hless hleft hst ho hb hgB hit1 hgr
        go_wp2
        go_roundw
        case rel => exact Hrel.out
        case measure => exact Hmeas.out
      · have ho' : offK x (k1, k2) = false := by simpa using ho
        have hst := stays_push_gone (seen := seen) H.out.borns H.out.keys hgg ho'
        have hN2 := hN1.grow (w' := (w1.alloc (.cells #[.int .i64 k1, .int .i64 k2] 52)).drew) (by (repeat (first | exact Below.refl _ _ | assumption | refine Below.drew ?_ | refine bDrewN ?_ | refine Below.setCell ?_ (by first | omega | (simp <;> omega)) _ | refine Below.alloc ?_ (by first | omega | (simp <;> omega)) _)))
        have hm2 : MapAt (w1.alloc (.cells #[.int .i64 k1, .int .i64 k2] 52)).drew r pairV ((gs.filter (stays x seen)).map Bag.ent) c := Grow.heap (w := w1) (by (repeat (first | exact Below.refl _ _ | assumption | refine Below.drew ?_ | refine bDrewN ?_ | refine Below.setCell ?_ (by first | omega | (simp <;> omega)) _ | refine Below.alloc ?_ (by first | omega | (simp <;> omega)) _))) hm1
        obtain ⟨W3, hrd, hK3, hN3, hm3⟩ := net_delete2 hN2 hm2 (k1, k2)
        have hit3 : W3.heap[w.heap.size]? = some (.mapIter (some r) c (seen.push born) c) := hK3.hard _ _ (Grow.heap (w := w1) (by (repeat (first | exact Below.refl _ _ | assumption | refine Below.drew ?_ | refine bDrewN ?_ | refine Below.setCell ?_ (by first | omega | (simp <;> omega)) _ | refine Below.alloc ?_ (by first | omega | (simp <;> omega)) _))) hit1) (by rintro (⟨_, _, e⟩ | ⟨_, _, e⟩) <;> cases e)
        have Hrel : Hid (ClearInv B w p r nodes bound now gs x c W3) := Lib.hid ⟨seen.push born, c, by rw [hst]; exact hN3, by rw [hst]; exact hm3, hit3, Nat.le_refl _, (hK1.trans (Keep.ofGrow (w' := (w1.alloc (.cells #[.int .i64 k1, .int .i64 k2] 52)).drew) (by (repeat (first | exact Below.refl _ _ | assumption | refine Below.drew ?_ | refine bDrewN ?_ | refine Below.setCell ?_ (by first | omega | (simp <;> omega)) _ | refine Below.alloc ?_ (by first | omega | (simp <;> omega)) _))) hN1.room)).trans hK3⟩
        have Hmeas : Hid (iterLeft r w.heap.size W3 < iterLeft r w.heap.size wr) := Lib.hid (by
          rw [iterLeft_eq hit3 hm3, hleft]
          refine Nat.lt_of_le_of_lt ?_ hless
          exact (((List.filter_sublist (l := gs.filter (stays x seen))).map Bag.ent).filter _).length_le)
        have hb2 : (w1.alloc (.cells #[.int .i64 k1, .int .i64 k2] 52)).drew.heap[w1.heap.size]? = some (.cells #[.int .i64 k1, .int .i64 k2] 52 (0, 0)) := hb
        have hb3 := hK3.hard _ _ hb2 (not_softN (by decide) _ _)
        obtain ⟨f0, f1, f2, f3⟩ := hN3.cells
        have g0 : W3.cell? ⟨w1.heap.size, 0, none⟩ = some (.int .i64 k1) := by simp [World.cell?, hb3]
        have g1 : W3.cell? ⟨w1.heap.size, 1, none⟩ = some (.int .i64 k2) := by simp [World.cell?, hb3]
        have e3 : (w1.alloc (.cells #[.int .i64 k1, .int .i64 k2] 52)).drew.cell? ⟨p, 3, none⟩ = some (.map (some r)) := hN2.cells.2.2.2
        have e4 : (w1.alloc (.cells #[.int .i64 k1, .int .i64 k2] 52)).drew.cell? ⟨w1.heap.size, 0, none⟩ = some (.int .i64 k1) := by unfold World.cell?; rw [hb2]; rfl
        have e5 : (w1.alloc (.cells #[.int .i64 k1, .int .i64 k2] 52)).drew.cell? ⟨w1.heap.size, 1, none⟩ = some (.int .i64 k2) := by unfold World.cell?; rw [hb2]; rfl
        have HS0 := Lib.hid (And.intro e3 (And.intro e4 e5))
        have HS3 := Lib.hid (And.intro f3 (And.intro g0 g1))
        simp only [pairV] at hrd
        have Hrd := Lib.hid hrd
        clear hN hmr hit hK hnb hold he hmem hg hgg hN1 hm1 hK1 hless hleft hst ho hb hgB hit1 hgr hN2 hm2 hrd hK3 hN3 hm3 hit3 hb2 hb3 f0 f1 f2 f3 g0 g1 e3 e4 e5 hsz
        by_cases h1 : k1 = x
        · have ho1 : (k1 == x) = true := by simpa using h1
          clear h1 ho'
          go_wp2
          refine wp_region_pi (fun W => W.cell? ⟨p, 3, none⟩ = some (.map (some r)) ∧ W.cell? ⟨w1.heap.size, 0, none⟩ = some (.int .i64 k1) ∧ W.cell? ⟨w1.heap.size, 1, none⟩ = some (.int .i64 k2))
            [(0, false), (1, false), (2, false), (3, false), (4, false), (5, true)] (by kernel_rfl) (by kernel_rfl) (fun c a d v w h => by cases d <;> exact h) HS0.out ?_
          simp only [arrange, nth]
          repeat (first | (refine wpPi_quiet (v := ?_) (by rfl) (fun W hW => ?_) ?_; rotate_left; (obtain ⟨hW1, hW2, hW3⟩ := hW; go_simp; with_reducible rfl); simp only [Act.put, List.setIfInBounds_toArray, List.set_cons_zero, List.set_cons_succ]) | (refine wpPi_off (by rfl) ?_; simp only [Act.put, List.setIfInBounds_toArray, List.set_cons_zero, List.set_cons_succ]))
          have hrd := Hrd.out
          refine wpPi_act (by rfl) (fun K hK => ?_)
          go_simp
          refine hK _ _ ⟨HS3.out, ?_⟩
          clear hK K
          try simp only [Act.put, List.setIfInBounds_toArray, List.set_cons_zero, List.set_cons_succ]
          refine wpPi_nil ?_
          go_wp2
          go_roundw
          case rel => exact Hrel.out
          case measure => exact Hmeas.out
        · have ho1 : (k1 == x) = false := by simpa using h1
          have ho2 : (k2 == x) = true := by simp only [offK, h1] at ho'; simpa using ho'
          clear h1 ho'
          go_wp2
          refine wp_region_pi (fun W => W.cell? ⟨p, 3, none⟩ = some (.map (some r)) ∧ W.cell? ⟨w1.heap.size, 0, none⟩ = some (.int .i64 k1) ∧ W.cell? ⟨w1.heap.size, 1, none⟩ = some (.int .i64 k2))
            [(0, false), (1, false), (2, false), (3, false), (4, false), (5, true)] (by kernel_rfl) (by kernel_rfl) (fun c a d v w h => by cases d <;> exact h) HS0.out ?_
          simp only [arrange, nth]
          repeat (first | (refine wpPi_quiet (v := ?_) (by rfl) (fun W hW => ?_) ?_; rotate_left; (obtain ⟨hW1, hW2, hW3⟩ := hW; go_simp; with_reducible rfl); simp only [Act.put, List.setIfInBounds_toArray, List.set_cons_zero, List.set_cons_succ]) | (refine wpPi_off (by rfl) ?_; simp only [Act.put, List.setIfInBounds_toArray, List.set_cons_zero, List.set_cons_succ]))
          have hrd := Hrd.out
          refine wpPi_act (by rfl) (fun K hK => ?_)
          go_simp
          refine hK _ _ ⟨HS3.out, ?_⟩
          clear hK K
          try simp only [Act.put, List.setIfInBounds_toArray, List.set_cons_zero, List.set_cons_succ]
          refine wpPi_nil ?_
          go_wp2
          go_roundw
          case rel => exact Hrel.out
          case measure => exact Hmeas.out
end Go.Proofs.Ytbanfilgokideaa
