/- Merged out of DB, DC, DD, DE, DF: helpers. -/
import Derived.Test.YtejpcoghkgjanaaGreatDoorVE
import Derived.Test.YtejpcoghkgjanaaGreatDoorLayP
import Derived.Sort.OwnSorted
import Derived.Shelf.Strings.Prefix
import Derived.Shelf.Sort.Plain
import Derived.Shelf.Slices.In.SortNone
import Derived.Sort.KeysCollected
/- disk.List: the names, in order; over the contracts of the sort and of strings.HasPrefix. -/
namespace Go.Proofs.YtejpcoghkgjanaaGreatDoor
open Go.RowKit Go.Gl Go.Wal Go.Sort

/-- What the sort is asked. -/
def SortsS : Prop := ∀ (w : World) (g cap : Nat) (ss : List (List UInt8)) (cur : Array Value), w.heap[g]? = some (.cells cur 9 (0, 0)) → cur.toList.take ss.length = ss.map encStr → ss.length < 1000000000 →
  Calls Tryz.prog 40 #[.slice (some ⟨g, 0, none⟩) ss.length cap] w fun e w' => e = .returned (.tuple #[]) ∧ ∃ n os, w' = grow (putRow encStr (Sort.ahead w n) g 0 (ss.mergeSort fun x y => decide (x ≤ y)).toArray) os
def SortsSNone : Prop := ∀ (w : World), Calls Tryz.prog 40 #[.slice none 0 0] w fun e w' => e = .returned (.tuple #[]) ∧ w' = w
def HasP : Prop := ∀ (s p : ByteArray) (w : World), Calls Tryz.prog 39 #[.string s, .string p] w fun e w' => e = .returned (.bool (Lib.hasPrefix s.data.toList p.data.toList)) ∧ w' = w

theorem sortsS : SortsS := fun w g cap ss cur hb ht hl => Any.slices_Sort_string Tryz.sortS g 0 cap ss w (holds_of_block hb ht) (lt_of_getElem? hb) (by omega)
theorem sortsSNone : SortsSNone := fun w => Any.slices_Sort_string_none Tryz.sortS none 0 w
theorem hasP : HasP := fun s p w => Any.strings_HasPrefix Tryz.hasP s p w

theorem perm_filter_ne {κ : Type} : ∀ {l : List (Ent κ)} {x : Ent κ}, (l.map Ent.born).Nodup → x ∈ l → l.Perm (x :: (l.filter fun e => decide (e.born ≠ x.born)))
  | y :: l, x, hn, h => by
    simp only [List.map_cons, List.nodup_cons, List.mem_map, not_exists, not_and] at hn
    by_cases hyx : y.born = x.born
    · have hxy : x = y := by
        rcases List.mem_cons.1 h with h | h
        · exact h
        · exact absurd hyx.symm (hn.1 x h)
      subst hxy
      rw [List.filter_cons_of_neg (by simp)]
      rw [List.filter_eq_self.2 fun e he => by simpa using fun h1 => hn.1 e he h1]
    · have hx : x ∈ l := by
        rcases List.mem_cons.1 h with h | h
        · exact absurd (by rw [h]) hyx
        · exact h
      rw [List.filter_cons_of_pos (by simpa using hyx)]
      exact ((perm_filter_ne hn.2 hx).cons y).trans (List.Perm.swap x y _)

/-- The names as lists of bytes, those that are asked for. -/
def pick (keep : ByteArray → Bool) (l : List (Ent ByteArray)) : List (List UInt8) := (l.filter fun e => keep e.key).map fun e => e.key.data.toList

def ListInv (w : World) (r : Nat) (keep : ByteArray → Bool) (l : List (Ent ByteArray)) (c : Nat) (lv : Value) (wr : World) : Prop :=
  ∃ (seen : Array Nat) (c0 : Nat) (done : List (List UInt8)) (la : Option Addr) (ln lc : Nat), lv = .slice la ln lc ∧ wr.heap[w.heap.size]? = some (.mapIter (some r) c seen c0) ∧ c ≤ c0 ∧ wr.ownsRow w.heap.size 9 1 (.slice la ln lc) done.length (done.map encStr) ∧ (done ++ pick keep (unmet seen l)).Perm (pick keep l) ∧ Grow w wr

theorem encStr_data (s : ByteArray) : encStr s.data.toList = .string s := by
  obtain ⟨a⟩ := s
  simp [encStr]

def ListPost (w : World) (names : List (List UInt8)) (e : Ending) (w' : World) : Prop :=
  ∃ v, e = .returned v ∧ w'.ownsRow w.heap.size 9 1 v names.length ((names.mergeSort fun x y => decide (x ≤ y)).map encStr) ∧ Grow w w'

theorem listClo_any (hP : HasP) (s p : ByteArray) {w : World} {bx : Nat} (hb : w.heap[bx]? = some (.cells #[.string s] 9 (0, 0))) :
    Calls Tryz.prog 38 #[.string p, .pointer (some ⟨bx, 0, none⟩)] w fun e w' => e = .returned (.bool (Lib.hasPrefix s.data.toList p.data.toList)) ∧ w' = w := by
  have b0 : w.cell? ⟨bx, 0, none⟩ = some (.string s) := by simp [World.cell?, hb]
  have lb := lt_of_getElem? hb
  have Hc := Lib.hid (hP s p w)
  go_enter Tryz.func38, Tryz.ntmps38
  go_wp2_with fail
  (with_reducible refine Hc.out.mono ?_)
  rintro e w1 ⟨rfl, hw⟩
  have hw' := hw.symm
  subst hw'
  clear hw
  go_wp2
  go_ret
  exact ⟨rfl, rfl⟩
end Go.Proofs.YtejpcoghkgjanaaGreatDoor

/- disk.List with no prefix, with one. -/
namespace Go.Proofs.YtejpcoghkgjanaaGreatDoor
open Go.RowKit Go.Gl Go.Wal Go.Sort

set_option maxRecDepth 100000 in
set_option maxHeartbeats 4000000 in
theorem list_all {B : Nat} {w : World} {p r : Nat} {size used born : Int} {fs : List Fe} (h : DiskAt B w p r size used born fs) (hmax : fs.length < 1000000000) :
    Calls Tryz.prog 17 #[.pointer (some ⟨p, 0, none⟩), .slice none 0 0] w (ListPost w (pick (fun _ => true) (fs.map Fe.ent))) := by
  obtain ⟨c, hm, hborn⟩ := h.map
  have hrange := run_range_map (P := Tryz.prog) w 54 9 75 r _ c Tryz.underlying54 hm
  obtain ⟨c0, c1, c2, c3⟩ := h.cells
  have lp := lt_of_getElem? h.self
  have hnb : ((fs.map Fe.ent).map Ent.born).Nodup := by rw [List.map_map]; exact h.borns
  have hold : ∀ e ∈ fs.map Fe.ent, e.born < c := fun e he => by obtain ⟨x, hx, rfl⟩ := List.mem_map.1 he; exact hborn x hx
  have hrs : w.heap.size ≠ r := by have := lt_of_getElem? hm; omega
  have hlen : (fs.map Fe.ent).length < 1000000000 := by simpa using hmax
  generalize fs.map Fe.ent = l at *
  have Hm := Lib.hid hm
  have Hnb := Lib.hid hnb
  have Hold := Lib.hid hold
  clear h hborn hnb hold hm
  go_enter Tryz.func17, Tryz.ntmps17
  go_wp2
  clear hrange
  go_loopw [5] (fun lv wr => ListInv w r (fun _ => true) l c lv wr) (fun _ wr => iterLeft r w.heap.size wr)
  case atStart =>
    refine ⟨#[], c, [], none, 0, 0, rfl, heap_alloc_new w _, Nat.le_refl _, World.ownsRow_nil _ _ _ _, ?_, by (repeat (first | exact Below.refl _ _ | assumption | refine Below.drew ?_ | refine bDrewN ?_ | refine Below.setCell ?_ (by first | omega | (simp <;> omega)) _ | refine Below.alloc ?_ (by first | omega | (simp <;> omega)) _))⟩
    rw [show unmet #[] l = l from List.filter_eq_self.2 (by simp)]; simp
  case round =>
    obtain ⟨seen, c0', done, la, ln, lc, rfl, hit, hcc, hown, hperm, hg⟩ := hrel
    have hmr : MapAt wr r Value.string l c := hg.heap Hm.out
    have hleft := iterLeft_eq hit hmr
    rcases run_next (P := Tryz.prog) (enc := Value.string) (l := l) 0 hit hmr Hold.out hcc hrs Hnb.out with ⟨h1, h2⟩ | ⟨e, w1, he, hrun, hent, hit1, hgr, hsz⟩
    · rw [h1] at hperm
      have Hp : Hid (done.Perm (pick (fun _ => true) l)) := Lib.hid (by simpa [pick] using hperm)
      have Hown := Lib.hid hown
      have Hg := Lib.hid hg
      have hlen2 : done.length < 1000000000 := by
        have := Hp.out.length_eq
        have h3 : (pick (fun _ => true) l).length ≤ l.length := by unfold pick; rw [List.length_map]; exact List.length_filter_le _ _
        omega
      clear h1 hleft hmr hit hown hperm hg
      go_wp2_with fail
      have hms : done.mergeSort (fun x y => decide (x ≤ y)) = (pick (fun _ => true) l).mergeSort (fun x y => decide (x ≤ y)) := mergeSort_of_perm Hp.out
      have hrow := Hown.out
      rcases hrow.2 with ⟨e1, e2⟩ | ⟨g, cap, cur, e1, hge, e2, e3, e4, e5, e6⟩
      · cases e1
        have hd : done = [] := List.eq_nil_of_length_eq_zero e2
        subst hd
        have hN0 : Calls Tryz.prog 40 #[.slice none 0 0] wr _ := sortsSNone wr
        (with_reducible refine hN0.mono ?_)
        rintro e w' ⟨rfl, rfl⟩
        go_wp2
        go_ret
        refine ⟨_, rfl, ?_, Hg.out⟩
        rw [← hms, ← Hp.out.length_eq, List.mergeSort_nil]
        exact World.ownsRow_nil _ _ _ _
      · cases e1
        have hS := sortsS wr g lc done cur e2 (by simpa using e6) hlen2
        have Hfin : Hid (∀ n os, (grow (putRow encStr (Sort.ahead wr n) g 0 (done.mergeSort fun x y => decide (x ≤ y)).toArray) os).ownsRow w.heap.size 9 1 (.slice (some ⟨g, 0, none⟩) done.length lc) done.length ((done.mergeSort fun x y => decide (x ≤ y)).map encStr)) := Lib.hid (fun n os => ownsRow_sorted (List.length_mergeSort _) hge e2 e3 e4 e5)
        have HS := Lib.hid hS
        have Hge := Lib.hid hge
        clear hrow e2 hge e3 e4 e5 e6 hS
        (with_reducible refine HS.out.mono ?_)
        rintro e w' ⟨rfl, nn, os, hw'⟩
        have Hw' := Lib.hid hw'
        clear hw'
        go_wp2
        go_ret
        refine ⟨_, rfl, ?_, ?_⟩
        · rw [← hms, ← Hp.out.length_eq, Hw'.out]
          exact Hfin.out nn os
        · rw [Hw'.out]
          exact Hg.out.grown (grownBy_sorted _) Hg.out.size (fun k hk => by cases hk; exact Hge.out)
    · have hpm := perm_filter_ne (unmet_nodup Hnb.out) he
      rw [← unmet_push] at hpm
      have hlen2 : done.length < 1000000000 := by
        have := hperm.length_eq
        have h3 : (pick (fun _ => true) l).length ≤ l.length := by unfold pick; rw [List.length_map]; exact List.length_filter_le _ _
        simp at this
        omega
      have hkeyE : encStr e.key.data.toList = .string e.key := encStr_data _
      have hpk : pick (fun _ => true) (e :: unmet (seen.push e.born) l) = (if (fun _ => true) e.key = true then [e.key.data.toList] else []) ++ pick (fun _ => true) (unmet (seen.push e.born) l) := by
        unfold pick
        rw [List.filter_cons]
        split <;> simp
      have hpp : (pick (fun _ => true) (unmet seen l)).Perm (pick (fun _ => true) (e :: unmet (seen.push e.born) l)) := by
        unfold pick
        exact (hpm.filter _).map _
      rw [hpk] at hpp
      generalize hek : e.key = key at *
      have hown1 : w1.ownsRow w.heap.size 9 1 (.slice la ln lc) done.length (done.map encStr) := hown.kept hgr (.inr fun e1 => by
        rcases hown.2 with ⟨e2, _⟩ | ⟨g, cap, cur, e2, _, e3, _⟩
        · rw [e2] at e1; cases e1
        · rw [e2] at e1
          have e4 : g = w.heap.size := Option.some.inj e1
          rw [e4, hit] at e3; cases e3)
      have hsw : w.heap.size < w1.heap.size := lt_of_getElem? hit1
      have hg1 : Grow w w1 := hg.grown hgr hg.size (fun k hk => by cases hk; exact Nat.le_refl _)
      have hga : Grow w1 (w1.alloc (.cells #[.string key] 9)) := Grow.alloc _ _
      have hbx : (w1.alloc (.cells #[.string key] 9)).heap[w1.heap.size]? = some (.cells #[.string key] 9 (0, 0)) := heap_alloc_new _ _
      have hown2 := hown1.alloc (.cells #[.string key] 9)
      have hit2 := hga.heap hit1
      have hg2 := hg1.trans hga
      have hmeas : ∀ W, W.heap[w.heap.size]? = some (.mapIter (some r) c (seen.push e.born) c) → Grow w W → iterLeft r w.heap.size W < iterLeft r w.heap.size wr := fun W hW hgW => by
        rw [iterLeft_eq hW (hgW.heap Hm.out : MapAt W r Value.string l c), hleft, unmet_push]
        refine Nat.lt_of_le_of_ne (List.length_filter_le _ _) fun h4 => ?_
        have := (List.length_filter_eq_length_iff.1 h4) e he
        simp at this
      cases hkp : (fun _ => true) key with
      | true =>
        rw [hkp, if_pos rfl] at hpp
        obtain ⟨i0, hi0, hz0, hz1, hz2⟩ := info_parts Tryz.infoStr
        have hgb : Grow (w1.alloc (.cells #[.string key] 9)) ((w1.alloc (.cells #[.string key] 9)).alloc (.cells #[.string key] 9)) := Grow.alloc _ _
        have hnw := heap_alloc_new (w1.alloc (.cells #[.string key] 9)) (.cells #[.string key] 9)
        rw [show (w1.alloc (.cells #[.string key] 9)).heap.size = w1.heap.size + 1 by simp] at hnw
        obtain ⟨g3, cap3, w3, hrun3, hown3, hgr3, hloc3, hlt3⟩ := run_append_lies (P := Tryz.prog) ((w1.alloc (.cells #[.string key] 9)).alloc (.cells #[.string key] 9)) 60 60 w.heap.size 9 i0 _ 1 16 Tryz.underlying60 hi0 hz0 hz1 hz2 rfl (by decide) _ _ _ (hown2.alloc _)
          ⟨w1.heap.size + 1, 0, none⟩ 1 1 [.string key] rfl (fun j u hu => World.news_of_block hnw j u (by simpa using hu)) (fun u hu => by rw [List.mem_singleton.1 hu]; rfl) (by decide) (by unfold maxLen; omega) (by omega) (by simp; omega) _ rfl
        have hg3 : Grow w w3 := (hg2.trans hgb).grown hgr3 (by have := (hg2.trans hgb).size; omega) (fun k hk => (hown2.lt k hk).1)
        have hit3 : w3.heap[w.heap.size]? = some (.mapIter (some r) c (seen.push e.born) c) := by
          rw [hgr3.block w.heap.size (by simp; omega) (fun e1 => ?_)]
          · exact hgb.heap hit2
          · rcases hown2.2 with ⟨e2, _⟩ | ⟨g, cap, cur, e2, _, e3, _⟩
            · rw [e2] at e1; cases e1
            · rw [e2] at e1
              have e4 : w.heap.size = g := Option.some.inj e1
              rw [← e4, hit2] at e3; cases e3
        have Hrel : Hid (ListInv w r (fun _ => true) l c (.slice (some ⟨g3, 0, none⟩) (done.length + 1) cap3) w3) := by
          refine Lib.hid ⟨seen.push e.born, c, done ++ [key.data.toList], _, _, _, rfl, hit3, Nat.le_refl _, ?_, ?_, hg3⟩
          · rw [List.length_append, List.map_append, List.map_singleton, hkeyE]; exact hown3
          · refine List.Perm.trans ?_ hperm
            rw [List.append_assoc]
            exact List.Perm.append_left _ hpp.symm
        have Hmeas := Lib.hid (hmeas w3 hit3 hg3)
        have Hrun3 := Lib.hid hrun3
        clear hleft hmr hit hit1 hgr he hperm hg hpm hown hek hown1 hg1 hi0 hz0 hz1 hz2 hnw hrun3 hown3 hgr3 hloc3 hlt3 hg2 hit2 hg3 hit3 hmeas hpp hpk hgb hown2 hkp hsz hbx
        go_wp2_with (at_builtin; refine wpList_append rfl rfl rfl rfl Hrun3.out ?_)
        go_roundw
        case rel => exact Hrel.out
        case measure => exact Hmeas.out
      | false =>
        cases hkp

set_option maxRecDepth 100000 in
set_option maxHeartbeats 4000000 in
theorem list_pre {B : Nat} {w : World} {p r : Nat} {size used born : Int} {fs : List Fe} (h : DiskAt B w p r size used born fs) (hmax : fs.length < 1000000000) (pf : ByteArray) {qb : Nat} (hq : w.heap[qb]? = some (.cells #[.string pf] 9 (0, 0))) :
    Calls Tryz.prog 17 #[.pointer (some ⟨p, 0, none⟩), .slice (some ⟨qb, 0, none⟩) 1 1] w (ListPost w (pick (fun s => Lib.hasPrefix s.data.toList pf.data.toList) (fs.map Fe.ent))) := by
  obtain ⟨c, hm, hborn⟩ := h.map
  have hrange := run_range_map (P := Tryz.prog) w 54 9 75 r _ c Tryz.underlying54 hm
  obtain ⟨c0, c1, c2, c3⟩ := h.cells
  have lp := lt_of_getElem? h.self
  have hnb : ((fs.map Fe.ent).map Ent.born).Nodup := by rw [List.map_map]; exact h.borns
  have hold : ∀ e ∈ fs.map Fe.ent, e.born < c := fun e he => by obtain ⟨x, hx, rfl⟩ := List.mem_map.1 he; exact hborn x hx
  have hrs : w.heap.size ≠ r := by have := lt_of_getElem? hm; omega
  have hlen : (fs.map Fe.ent).length < 1000000000 := by simpa using hmax
  generalize fs.map Fe.ent = l at *
  have Hm := Lib.hid hm
  have Hnb := Lib.hid hnb
  have Hold := Lib.hid hold
  have Hq := Lib.hid hq
  clear hq
  clear h hborn hnb hold hm
  go_enter Tryz.func17, Tryz.ntmps17
  go_wp2
  clear hrange
  go_loopw [5] (fun lv wr => ListInv w r (fun s => Lib.hasPrefix s.data.toList pf.data.toList) l c lv wr) (fun _ wr => iterLeft r w.heap.size wr)
  case atStart =>
    refine ⟨#[], c, [], none, 0, 0, rfl, heap_alloc_new w _, Nat.le_refl _, World.ownsRow_nil _ _ _ _, ?_, by (repeat (first | exact Below.refl _ _ | assumption | refine Below.drew ?_ | refine bDrewN ?_ | refine Below.setCell ?_ (by first | omega | (simp <;> omega)) _ | refine Below.alloc ?_ (by first | omega | (simp <;> omega)) _))⟩
    rw [show unmet #[] l = l from List.filter_eq_self.2 (by simp)]; simp
  case round =>
    obtain ⟨seen, c0', done, la, ln, lc, rfl, hit, hcc, hown, hperm, hg⟩ := hrel
    have hmr : MapAt wr r Value.string l c := hg.heap Hm.out
    have hleft := iterLeft_eq hit hmr
    rcases run_next (P := Tryz.prog) (enc := Value.string) (l := l) 0 hit hmr Hold.out hcc hrs Hnb.out with ⟨h1, h2⟩ | ⟨e, w1, he, hrun, hent, hit1, hgr, hsz⟩
    · rw [h1] at hperm
      have Hp : Hid (done.Perm (pick (fun s => Lib.hasPrefix s.data.toList pf.data.toList) l)) := Lib.hid (by simpa [pick] using hperm)
      have Hown := Lib.hid hown
      have Hg := Lib.hid hg
      have hlen2 : done.length < 1000000000 := by
        have := Hp.out.length_eq
        have h3 : (pick (fun s => Lib.hasPrefix s.data.toList pf.data.toList) l).length ≤ l.length := by unfold pick; rw [List.length_map]; exact List.length_filter_le _ _
        omega
      clear h1 hleft hmr hit hown hperm hg
      go_wp2_with fail
      have hms : done.mergeSort (fun x y => decide (x ≤ y)) = (pick (fun s => Lib.hasPrefix s.data.toList pf.data.toList) l).mergeSort (fun x y => decide (x ≤ y)) := mergeSort_of_perm Hp.out
      have hrow := Hown.out
      rcases hrow.2 with ⟨e1, e2⟩ | ⟨g, cap, cur, e1, hge, e2, e3, e4, e5, e6⟩
      · cases e1
        have hd : done = [] := List.eq_nil_of_length_eq_zero e2
        subst hd
        have hN0 : Calls Tryz.prog 40 #[.slice none 0 0] wr _ := sortsSNone wr
        (with_reducible refine hN0.mono ?_)
        rintro e w' ⟨rfl, rfl⟩
        go_wp2
        go_ret
        refine ⟨_, rfl, ?_, Hg.out⟩
        rw [← hms, ← Hp.out.length_eq, List.mergeSort_nil]
        exact World.ownsRow_nil _ _ _ _
      · cases e1
        have hS := sortsS wr g lc done cur e2 (by simpa using e6) hlen2
        have Hfin : Hid (∀ n os, (grow (putRow encStr (Sort.ahead wr n) g 0 (done.mergeSort fun x y => decide (x ≤ y)).toArray) os).ownsRow w.heap.size 9 1 (.slice (some ⟨g, 0, none⟩) done.length lc) done.length ((done.mergeSort fun x y => decide (x ≤ y)).map encStr)) := Lib.hid (fun n os => ownsRow_sorted (List.length_mergeSort _) hge e2 e3 e4 e5)
        have HS := Lib.hid hS
        have Hge := Lib.hid hge
        clear hrow e2 hge e3 e4 e5 e6 hS
        (with_reducible refine HS.out.mono ?_)
        rintro e w' ⟨rfl, nn, os, hw'⟩
        have Hw' := Lib.hid hw'
        clear hw'
        go_wp2
        go_ret
        refine ⟨_, rfl, ?_, ?_⟩
        · rw [← hms, ← Hp.out.length_eq, Hw'.out]
          exact Hfin.out nn os
        · rw [Hw'.out]
          exact Hg.out.grown (grownBy_sorted _) Hg.out.size (fun k hk => by cases hk; exact Hge.out)
    · have hpm := perm_filter_ne (unmet_nodup Hnb.out) he
      rw [← unmet_push] at hpm
      have hlen2 : done.length < 1000000000 := by
        have := hperm.length_eq
        have h3 : (pick (fun s => Lib.hasPrefix s.data.toList pf.data.toList) l).length ≤ l.length := by unfold pick; rw [List.length_map]; exact List.length_filter_le _ _
        simp at this
        omega
      have hkeyE : encStr e.key.data.toList = .string e.key := encStr_data _
      have hpk : pick (fun s => Lib.hasPrefix s.data.toList pf.data.toList) (e :: unmet (seen.push e.born) l) = (if (fun s => Lib.hasPrefix s.data.toList pf.data.toList) e.key = true then [e.key.data.toList] else []) ++ pick (fun s => Lib.hasPrefix s.data.toList pf.data.toList) (unmet (seen.push e.born) l) := by
        unfold pick
        rw [List.filter_cons]
        split <;> simp
      have hpp : (pick (fun s => Lib.hasPrefix s.data.toList pf.data.toList) (unmet seen l)).Perm (pick (fun s => Lib.hasPrefix s.data.toList pf.data.toList) (e :: unmet (seen.push e.born) l)) := by
        unfold pick
        exact (hpm.filter _).map _
      rw [hpk] at hpp
      generalize hek : e.key = key at *
      have hown1 : w1.ownsRow w.heap.size 9 1 (.slice la ln lc) done.length (done.map encStr) := hown.kept hgr (.inr fun e1 => by
        rcases hown.2 with ⟨e2, _⟩ | ⟨g, cap, cur, e2, _, e3, _⟩
        · rw [e2] at e1; cases e1
        · rw [e2] at e1
          have e4 : g = w.heap.size := Option.some.inj e1
          rw [e4, hit] at e3; cases e3)
      have hsw : w.heap.size < w1.heap.size := lt_of_getElem? hit1
      have hg1 : Grow w w1 := hg.grown hgr hg.size (fun k hk => by cases hk; exact Nat.le_refl _)
      have hga : Grow w1 (w1.alloc (.cells #[.string key] 9)) := Grow.alloc _ _
      have hbx : (w1.alloc (.cells #[.string key] 9)).heap[w1.heap.size]? = some (.cells #[.string key] 9 (0, 0)) := heap_alloc_new _ _
      have hown2 := hown1.alloc (.cells #[.string key] 9)
      have hit2 := hga.heap hit1
      have hg2 := hg1.trans hga
      have hmeas : ∀ W, W.heap[w.heap.size]? = some (.mapIter (some r) c (seen.push e.born) c) → Grow w W → iterLeft r w.heap.size W < iterLeft r w.heap.size wr := fun W hW hgW => by
        rw [iterLeft_eq hW (hgW.heap Hm.out : MapAt W r Value.string l c), hleft, unmet_push]
        refine Nat.lt_of_le_of_ne (List.length_filter_le _ _) fun h4 => ?_
        have := (List.length_filter_eq_length_iff.1 h4) e he
        simp at this
      have hcon := contains1 (hg2.heap Hq.out) (fn := 38) ⟨_, Tryz.func38, by kernel_rfl⟩ (listClo_any hasP key pf hbx) (enters_of Tryz.func38 (by kernel_rfl) rfl)
      have q0 := lt_of_getElem? Hq.out
      cases hkp : (fun s => Lib.hasPrefix s.data.toList pf.data.toList) key with
      | true =>
        have hkp0 := hkp
        rw [hkp, if_pos rfl] at hpp
        obtain ⟨i0, hi0, hz0, hz1, hz2⟩ := info_parts Tryz.infoStr
        have hgb : Grow (w1.alloc (.cells #[.string key] 9)) ((w1.alloc (.cells #[.string key] 9)).alloc (.cells #[.string key] 9)) := Grow.alloc _ _
        have hnw := heap_alloc_new (w1.alloc (.cells #[.string key] 9)) (.cells #[.string key] 9)
        rw [show (w1.alloc (.cells #[.string key] 9)).heap.size = w1.heap.size + 1 by simp] at hnw
        obtain ⟨g3, cap3, w3, hrun3, hown3, hgr3, hloc3, hlt3⟩ := run_append_lies (P := Tryz.prog) ((w1.alloc (.cells #[.string key] 9)).alloc (.cells #[.string key] 9)) 60 60 w.heap.size 9 i0 _ 1 16 Tryz.underlying60 hi0 hz0 hz1 hz2 rfl (by decide) _ _ _ (hown2.alloc _)
          ⟨w1.heap.size + 1, 0, none⟩ 1 1 [.string key] rfl (fun j u hu => World.news_of_block hnw j u (by simpa using hu)) (fun u hu => by rw [List.mem_singleton.1 hu]; rfl) (by decide) (by unfold maxLen; omega) (by omega) (by simp; omega) _ rfl
        have hg3 : Grow w w3 := (hg2.trans hgb).grown hgr3 (by have := (hg2.trans hgb).size; omega) (fun k hk => (hown2.lt k hk).1)
        have hit3 : w3.heap[w.heap.size]? = some (.mapIter (some r) c (seen.push e.born) c) := by
          rw [hgr3.block w.heap.size (by simp; omega) (fun e1 => ?_)]
          · exact hgb.heap hit2
          · rcases hown2.2 with ⟨e2, _⟩ | ⟨g, cap, cur, e2, _, e3, _⟩
            · rw [e2] at e1; cases e1
            · rw [e2] at e1
              have e4 : w.heap.size = g := Option.some.inj e1
              rw [← e4, hit2] at e3; cases e3
        have Hrel : Hid (ListInv w r (fun s => Lib.hasPrefix s.data.toList pf.data.toList) l c (.slice (some ⟨g3, 0, none⟩) (done.length + 1) cap3) w3) := by
          refine Lib.hid ⟨seen.push e.born, c, done ++ [key.data.toList], _, _, _, rfl, hit3, Nat.le_refl _, ?_, ?_, hg3⟩
          · rw [List.length_append, List.map_append, List.map_singleton, hkeyE]; exact hown3
          · refine List.Perm.trans ?_ hperm
            rw [List.append_assoc]
            exact List.Perm.append_left _ hpp.symm
        have Hmeas := Lib.hid (hmeas w3 hit3 hg3)
        have Hrun3 := Lib.hid hrun3
        clear hleft hmr hit hit1 hgr he hperm hg hpm hown hek hown1 hg1 hi0 hz0 hz1 hz2 hnw hrun3 hown3 hgr3 hloc3 hlt3 hg2 hit2 hg3 hit3 hmeas hpp hpk hgb hown2 hkp hsz hbx
        rw [show Lib.hasPrefix key.data.toList pf.data.toList = true from hkp0] at hcon
        have Hcon := Lib.hid hcon
        clear hcon hkp0
        go_wp2_with fail
        (with_reducible refine Hcon.out.mono ?_)
        rintro e5 w5 ⟨rfl, hw5⟩
        have hw5' := hw5.symm
        subst hw5'
        clear hw5
        go_wp2_with (at_builtin; refine wpList_append rfl rfl rfl rfl Hrun3.out ?_)
        go_roundw
        case rel => exact Hrel.out
        case measure => exact Hmeas.out
      | false =>
        have hkp0 := hkp
        rw [hkp, if_neg (by decide), List.nil_append] at hpp
        have Hrel : Hid (ListInv w r (fun s => Lib.hasPrefix s.data.toList pf.data.toList) l c (.slice la ln lc) (w1.alloc (.cells #[.string key] 9))) := Lib.hid ⟨seen.push e.born, c, done, _, _, _, rfl, hit2, Nat.le_refl _, hown2, (List.Perm.append_left _ hpp.symm).trans hperm, hg2⟩
        have Hmeas := Lib.hid (hmeas _ hit2 hg2)
        clear hleft hmr hit hit1 hgr he hperm hg hpm hown hek hown1 hg1 hg2 hit2 hmeas hpp hpk hown2 hkp hsz hbx
        rw [show Lib.hasPrefix key.data.toList pf.data.toList = false from hkp0] at hcon
        have Hcon := Lib.hid hcon
        clear hcon hkp0
        go_wp2_with fail
        (with_reducible refine Hcon.out.mono ?_)
        rintro e5 w5 ⟨rfl, hw5⟩
        have hw5' := hw5.symm
        subst hw5'
        clear hw5
        go_wp2
        go_roundw
        case rel => exact Hrel.out
        case measure => exact Hmeas.out
end Go.Proofs.YtejpcoghkgjanaaGreatDoor

/- disk.Crash. -/
namespace Go.Proofs.YtejpcoghkgjanaaGreatDoor
open Go.RowKit Go.Gl Go.Wal Go.Sort

/-- How many bytes there are. -/
def tot (V : Vw) : Nat := (V.map (fun e => e.2.1.length)).sum

/-- How many bytes of a file a crash keeps. -/
def keptD (picks : List Int) (i len syn : Nat) : Nat := match picks[i]? with
  | none => syn
  | some k => if 0 ≤ k then syn + (k % ((len - syn + 1 : Nat) : Int)).toNat else syn

def cutV (n : ByteArray) (k : Nat) (V : Vw) : Vw := V.map (fun e => if e.1 = n then (e.1, e.2.1.take k, k) else e)

def lookV (n : ByteArray) (V : Vw) : Option (List UInt8 × Nat) := (V.find? (fun e => decide (n = e.1))).map (·.2)

def crashV (picks : List Int) : Nat → List (List UInt8) → Vw → Vw
  | _, [], V => V
  | i, n :: ns, V => crashV picks (i + 1) ns (match lookV ⟨n.toArray⟩ V with | none => V | some (b, s) => cutV ⟨n.toArray⟩ (keptD picks i b.length s) V)

theorem keptD_le (picks : List Int) (i : Nat) {len syn : Nat} (h : syn ≤ len) : syn ≤ keptD picks i len syn ∧ keptD picks i len syn ≤ len := by
  unfold keptD
  split
  · omega
  · rename_i k _
    split
    · have h1 := Int.emod_nonneg k (b := ((len - syn + 1 : Nat) : Int)) (by omega)
      have h2 := Int.emod_lt_of_pos k (b := ((len - syn + 1 : Nat) : Int)) (by omega)
      omega
    · omega

theorem lookV_file (n : ByteArray) (fs : List Fe) : lookV n (vw fs) = (fileOf n fs).map (fun f => (f.b, f.synced)) := by
  unfold lookV fileOf vw
  induction fs with
  | nil => rfl
  | cons f fs ih =>
    simp only [List.map_cons, List.find?_cons]
    by_cases h : n = f.name
    · simp [h]
    · simp only [h, decide_false]
      exact ih

theorem vw_cut {fs : List Fe} (h : (fs.map Fe.name).Nodup) {f : Fe} (hf : f ∈ fs) (v : Value) (k : Nat) : vw (putF f.name v (f.b.take k) k fs) = cutV f.name k (vw fs) := by
  unfold cutV vw putF
  rw [List.map_map, List.map_map]
  refine List.map_congr_left fun g hg => ?_
  simp only [Function.comp]
  by_cases hn : g.name = f.name
  · have := name_inj h hg hf hn
    subst this
    simp
  · simp [hn]

theorem tot_cut {fs : List Fe} (h : (fs.map Fe.name).Nodup) {f : Fe} (hf : f ∈ fs) {k : Nat} (hk : k ≤ f.b.length) : tot (cutV f.name k (vw fs)) + (f.b.length - k) = tot (vw fs) := by
  induction fs with
  | nil => cases hf
  | cons g fs ih =>
    simp only [List.map_cons, List.nodup_cons, List.mem_map, not_exists, not_and] at h
    rcases List.mem_cons.1 hf with rfl | hf'
    · have hrest : cutV f.name k (vw fs) = vw fs := by
        unfold cutV
        refine (List.map_congr_left fun e he => ?_).trans (List.map_id _)
        obtain ⟨x, hx, rfl⟩ := List.mem_map.1 he
        simp [h.1 x hx]
      have e1 : cutV f.name k (vw (f :: fs)) = (f.name, f.b.take k, k) :: vw fs := by
        show (if f.name = f.name then _ else _) :: cutV f.name k (vw fs) = _
        rw [hrest, if_pos rfl]
      rw [e1]
      simp [tot, vw]
      omega
    · have hne : ¬ g.name = f.name := fun e => h.1 f hf' e.symm
      have := ih h.2 hf'
      have e1 : cutV f.name k (vw (g :: fs)) = (g.name, g.b, g.synced) :: cutV f.name k (vw fs) := by
        show (if g.name = f.name then _ else _) :: cutV f.name k (vw fs) = _
        rw [if_neg hne]
      rw [e1]
      simp only [tot, vw, List.map_cons, List.sum_cons] at this ⊢
      omega

/-- A row cut short. -/
theorem ownB_cut {B : Nat} {w : World} {a : Option Addr} {c k : Nat} {l : List UInt8} (h : OwnB B w (.slice a l.length c) l) (hk : k ≤ l.length) : OwnB B w (.slice a k k) (l.take k) := by
  have hl : (bcells (l.take k)).length = k := by rw [bcells_len]; simp; omega
  rcases h with ⟨h1, h2⟩ | ⟨g, cap, cur, h1, hB, hg, hlc, hcc, hm, ht⟩
  · have hl0 : l = [] := List.eq_nil_of_length_eq_zero (by rw [← bcells_len, h2]; rfl)
    subst hl0
    simp only [Value.slice.injEq] at h1
    obtain ⟨rfl, _, rfl⟩ := h1
    have : k = 0 := by simpa using hk
    subst this
    exact .inl ⟨rfl, rfl⟩
  · simp only [Value.slice.injEq] at h1
    obtain ⟨rfl, _, rfl⟩ := h1
    rw [bcells_len] at hlc ht
    refine .inr ⟨g, k, cur, by rw [hl], hB, hg, by rw [hl]; exact Nat.le_refl _, by omega, by omega, ?_⟩
    rw [hl]
    have : cur.toList.take k = (cur.toList.take l.length).take k := by rw [List.take_take, Nat.min_eq_left hk]
    rw [this, ht]
    simp [bcells, List.map_take]
end Go.Proofs.YtejpcoghkgjanaaGreatDoor

/- disk.Crash: the walk. -/
namespace Go.Proofs.YtejpcoghkgjanaaGreatDoor
open Go.RowKit Go.Gl Go.Wal Go.Sort

/-- The value reads as the numbers ks. -/
def Iv (w : World) (v : Value) (ks : List Int) : Prop :=
  ∃ a c, v = .slice a ks.length c ∧ ks.length ≤ maxLen ∧ (ks = [] ∨ ∃ b o, a = some ⟨b, o, none⟩ ∧ b < w.heap.size ∧ ∀ (j : Nat) (k : Int), ks[j]? = some k → w.cell? ⟨b, o + j, none⟩ = some (.int .i64 k))

/-- No block of the numbers is a block of the disk. -/
def IvFree (F : Nat → Prop) (v : Value) : Prop := ∀ b, v.ownBlock = some b → ¬ F b

theorem Iv.sep {w w' : World} {v : Value} {ks : List Int} {F F' : Nat → Prop} (h : Iv w v ks) (hs : Sep F w w' F') (hf : ks ≠ [] → IvFree F v) : Iv w' v ks := by
  obtain ⟨a, c, rfl, hm, h⟩ := h
  refine ⟨a, c, rfl, hm, ?_⟩
  by_cases hk : ks = []
  · exact .inl hk
  · rcases h with h | ⟨b, o, rfl, hb, hc⟩
    · exact absurd h hk
    · have hfr := hs.free hb (hf hk b rfl)
      exact .inr ⟨b, o, rfl, hfr.2.1, fun j k hj => by rw [← hc j k hj]; simp only [World.cell?, hfr.1]⟩

theorem names_cut (n : ByteArray) (k : Nat) (V : Vw) : (cutV n k V).map (·.1) = V.map (·.1) := by
  unfold cutV
  rw [List.map_map]
  refine List.map_congr_left fun e _ => ?_
  simp only [Function.comp]
  split <;> rfl

structure CrI (B : Nat) (w : World) (p r : Nat) (size born : Int) (V0 : Vw) (F : Nat → Prop) (picks : List Int) (ns : List (List UInt8)) (gN : Nat) (cur : Array Value) (i : Nat) (fs' : List Fe) (wr : World) : Prop where
  disk : DiskAt B wr p r size (tot (vw fs')) born fs'
  run : crashV picks 0 ns V0 = crashV picks i (ns.drop i) (vw fs')
  names : (vw fs').map (·.1) = V0.map (·.1)
  sep : Sep F w wr (Foot p r fs')
  row : wr.heap[gN]? = some (.cells cur 9 (0, 0))
  room : tot (vw fs') ≤ 1073741824

def CrInv (B : Nat) (w : World) (p r : Nat) (size born : Int) (V0 : Vw) (F : Nat → Prop) (picks : List Int) (ns : List (List UInt8)) (gN : Nat) (cur : Array Value) (iv : Value) (wr : World) : Prop :=
  ∃ (i : Nat) (fs' : List Fe), iv = .int .i64 i ∧ i ≤ ns.length ∧ CrI B w p r size born V0 F picks ns gN cur i fs' wr

theorem tot_mem {fs : List Fe} {f : Fe} (h : f ∈ fs) : f.b.length ≤ tot (vw fs) := by
  induction fs with
  | nil => cases h
  | cons g fs ih =>
    simp only [tot, vw, List.map_cons, List.sum_cons] at ih ⊢
    rcases List.mem_cons.1 h with rfl | h
    · omega
    · have := ih h; omega

theorem file_of_name {fs : List Fe} {n : ByteArray} (h : n ∈ (vw fs).map (·.1)) : ∃ f, fileOf n fs = some f := by
  cases hf : fileOf n fs with
  | some f => exact ⟨f, rfl⟩
  | none =>
    obtain ⟨e, he, rfl⟩ := List.mem_map.1 h
    obtain ⟨f, hfm, rfl⟩ := List.mem_map.1 he
    exact absurd rfl (fileOf_none hf f hfm)

set_option maxRecDepth 100000 in
set_option maxHeartbeats 4000000 in
/-- One round's stores: how much is used, then the file's slice and what is synced. -/
theorem crash_put {B : Nat} {w : World} {p r : Nat} {size used born : Int} {fs : List Fe} (h : DiskAt B w p r size used born fs) {f : Fe} (hf : f ∈ fs) {a : Option Addr} {c : Nat} (hbv : f.bv = .slice a f.b.length c) {k : Nat} (hk : k ≤ f.b.length) (used' : Int) :
    DiskAt B (((w.setCell ⟨p, 1, none⟩ (.int .i64 used')).setCell ⟨f.fb, 0, none⟩ (.slice a k k)).setCell ⟨f.fb, 1, none⟩ (.int .i64 k)) p r size used' born (putF f.name (.slice a k k) (f.b.take k) k fs) ∧
    Sep (Foot p r fs) w (((w.setCell ⟨p, 1, none⟩ (.int .i64 used')).setCell ⟨f.fb, 0, none⟩ (.slice a k k)).setCell ⟨f.fb, 1, none⟩ (.int .i64 k)) (Foot p r (putF f.name (.slice a k k) (f.b.take k) k fs)) := by
  obtain ⟨h1, s1⟩ := h.setUsed used'
  have hrow : OwnB B (w.setCell ⟨p, 1, none⟩ (.int .i64 used')) (.slice a k k) (f.b.take k) := ownB_cut (l := f.b) (c := c) (by rw [← hbv]; exact (h1.files f hf).row) hk
  have hc1 := (h1.files f hf).cell
  obtain ⟨h2, s2⟩ := h1.put hf (w1 := w.setCell ⟨p, 1, none⟩ (.int .i64 used')) (w2 := ((w.setCell ⟨p, 1, none⟩ (.int .i64 used')).setCell ⟨f.fb, 0, none⟩ (.slice a k k)).setCell ⟨f.fb, 1, none⟩ (.int .i64 k)) (s := k) hrow ⟨rfl, rfl, rfl, Nat.le_refl _, fun _ _ _ => rfl⟩ (fun b hb => .inl (by rw [hbv]; cases a <;> exact hb)) (setCell_heap (setCell_heap hc1 0 _) 1 _) (grown_trans (grown_setCell _ _ _ _) (grown_setCell _ _ _ _)) (by simp; omega)
  exact ⟨h2, s1.trans s2⟩
end Go.Proofs.YtejpcoghkgjanaaGreatDoor

/- disk.Crash: the walk. -/
namespace Go.Proofs.YtejpcoghkgjanaaGreatDoor
open Go.RowKit Go.Gl Go.Wal Go.Sort

def sortN (fs : List Fe) : List (List UInt8) := (pick (fun _ => true) (fs.map Fe.ent)).mergeSort (fun x y => decide (x ≤ y))

theorem sortN_mem {fs : List Fe} {n : List UInt8} (h : n ∈ sortN fs) : (⟨n.toArray⟩ : ByteArray) ∈ (vw fs).map (·.1) := by
  have h1 := (List.mergeSort_perm _ _).mem_iff.1 h
  unfold pick at h1
  obtain ⟨e, he, rfl⟩ := List.mem_map.1 h1
  obtain ⟨f, hf, rfl⟩ := List.mem_map.1 (List.mem_filter.1 he).1
  simp only [vw, List.map_map, List.mem_map, Function.comp]
  exact ⟨f, hf, by simp [Fe.ent]⟩

set_option maxRecDepth 100000 in
set_option maxHeartbeats 4000000 in
theorem crash_any {B : Nat} {w : World} {p r : Nat} {size born : Int} {fs : List Fe} (h : DiskAt B w p r size (tot (vw fs)) born fs) (hroom : tot (vw fs) ≤ 1073741824) (hmax : fs.length < 1000000000)
    {pv : Value} {picks : List Int} (hp : Iv w pv picks) (hfree : picks ≠ [] → IvFree (Foot p r fs) pv) :
    Calls Tryz.prog 13 #[.pointer (some ⟨p, 0, none⟩), pv] w fun e w' => e = .returned (.tuple #[]) ∧ ∃ fs', DiskAt B w' p r size (tot (vw fs')) born fs' ∧ Sep (Foot p r fs) w w' (Foot p r fs') ∧ vw fs' = crashV picks 0 (sortN fs) (vw fs) := by
  have hlist := list_all h hmax
  obtain ⟨pa, pc, hpv, hpm, _⟩ := id hp
  subst hpv
  have H := Lib.hid h
  have Hp := Lib.hid hp
  have Hfree := Lib.hid hfree
  have Hlist := Lib.hid hlist
  clear h hp hfree hlist
  go_enter Tryz.func13, Tryz.ntmps13
  go_wp2_with fail
  (with_reducible refine Hlist.out.mono ?_)
  rintro e w1 ⟨nv, rfl, hrow, hg1⟩
  have hln : (sortN fs).length = (pick (fun _ => true) (fs.map Fe.ent)).length := List.length_mergeSort _
  have hrow' : w1.ownsRow w.heap.size 9 1 nv (sortN fs).length ((sortN fs).map encStr) := by rw [hln]; exact hrow
  have hmem : ∀ n ∈ sortN fs, (⟨n.toArray⟩ : ByteArray) ∈ (vw fs).map (·.1) := fun n hn => sortN_mem hn
  generalize hnsd : sortN fs = ns at *
  have Hns := Lib.hid hnsd
  clear hnsd
  have h1 := H.out.grow hg1
  rcases hrow'.2 with ⟨rfl, hn0⟩ | ⟨gN, cap, cur, rfl, hge, hgN, hnc, hcm, hcs, htk⟩
  · have hns : ns = [] := List.eq_nil_of_length_eq_zero hn0
    subst hns
    have Hfin := Lib.hid h1
    have Hg1 := Lib.hid hg1
    clear h1 hg1 hrow hrow' hln hmem hn0
    go_wp2_with fail
    refine wp_loop_rounds 1 ?_
    rw [rounds_succ]
    go_wp2
    go_end0
    exact ⟨rfl, fs, Hfin.out, Sep.ofGrow Hg1.out, by rw [Hns.out]; rfl⟩
  · have hnm : ∀ (i : Nat) (n : List UInt8), ns[i]? = some n → ∀ W : World, W.heap[gN]? = some (.cells cur 9 (0, 0)) → W.cell? ⟨gN, i, none⟩ = some (.string ⟨n.toArray⟩) := fun i n hi W hW => by
      have h2 : (ns.map encStr)[i]? = some (.string ⟨n.toArray⟩) := by simp [hi, encStr]
      rw [← htk, Nat.mul_one, List.getElem?_take] at h2
      split at h2
      · have h3 : cur[i]? = some (.string ⟨n.toArray⟩) := by simpa using h2
        simp [World.cell?, hW, h3]
      · cases h2
    have hst : CrInv B w p r size born (vw fs) (Foot p r fs) picks ns gN cur (.int .i64 0) w1 := ⟨0, fs, rfl, Nat.zero_le _, h1, rfl, rfl, Sep.ofGrow hg1, hgN, hroom⟩
    have Hst := Lib.hid hst
    have Hnm := Lib.hid hnm
    have Hmem := Lib.hid hmem
    have hnl : ns.length < 1000000000 := by
      have h2 : (pick (fun _ => true) (fs.map Fe.ent)).length ≤ (fs.map Fe.ent).length := by unfold pick; rw [List.length_map]; exact List.length_filter_le _ _
      rw [List.length_map] at h2; omega
    clear h1 hg1 hrow hrow' hst hgN hnc hcm hcs htk hge hln hnm hmem
    go_wp2_with fail
    go_loopw [11] (fun iv wr => CrInv B w p r size born (vw fs) (Foot p r fs) picks ns gN cur iv wr) (fun iv _ => ns.length - (intOf iv).toNat)
    case atStart => exact Hst.out
    case round =>
      obtain ⟨i, fs', rfl, hi, hI⟩ := hrel
      by_cases hlt : i < ns.length
      · obtain ⟨n, hn⟩ : ∃ n, ns[i]? = some n := ⟨ns[i], by simp [hlt]⟩
        have hcn := Hnm.out i n hn wr hI.row
        have lgN := lt_of_getElem? hI.row
        obtain ⟨f, hfo⟩ : ∃ f, fileOf ⟨n.toArray⟩ fs' = some f := file_of_name (by rw [hI.names]; exact Hmem.out n (List.mem_of_getElem? hn))
        obtain ⟨hm, hfn⟩ := fileOf_some hfo
        have hlk : (Instr.lookup 54 (.map (some r)) (.string ⟨n.toArray⟩) false).run Tryz.prog wr = .ok (.pointer (some ⟨f.fb, 0, none⟩)) wr := by
          have := hI.disk.lookup ⟨n.toArray⟩
          simpa only [fileVal, hfo] using this
        obtain ⟨c0, c1, c2, c3⟩ := hI.disk.cells
        have lp := lt_of_getElem? hI.disk.self
        have hfa := hI.disk.files f hm
        obtain ⟨ba, bc, hbv⟩ := hfa.row.slice
        rw [bcells_len] at hbv
        have z0 : wr.cell? ⟨f.fb, 0, none⟩ = some (.slice ba f.b.length bc) := by simp [World.cell?, hfa.cell, hbv]
        have z1 : wr.cell? ⟨f.fb, 1, none⟩ = some (.int .i64 f.synced) := by simp [World.cell?, hfa.cell]
        have hbcl : f.b.length ≤ bc := by
          have := ownB_bv hfa.row
          rw [hbv] at this
          obtain ⟨_, _, he, h5, _⟩ := this
          cases he; exact h5
        have lf := lt_of_getElem? hfa.cell
        have hsy := hfa.sync
        have hbl := tot_mem hm
        have hrm := hI.room
        obtain ⟨kp, hkp⟩ : ∃ kp, kp = keptD picks i f.b.length f.synced := ⟨_, rfl⟩
        have hkl := keptD_le picks i hsy
        rw [← hkp] at hkl
        have hpk : Iv wr (.slice pa picks.length pc) picks := Hp.out.sep hI.sep Hfree.out
        have hi1 : (i : Int) < (ns.length : Int) := by omega
        have hi0 : (0 : Int) ≤ (i : Int) := by omega
        have hwi : IntKind.i64.wrap ((i : Int) + 1) = (i : Int) + 1 := IntWalk.i64_in _ (by omega)
        have Hrel' : Hid (∀ W, Grow wr W → CrInv B w p r size born (vw fs) (Foot p r fs) picks ns gN cur (.int .i64 ((i : Int) + 1)) (((W.setCell ⟨p, 1, none⟩ (.int .i64 ((tot (vw fs') : Int) - ((f.b.length : Int) - (kp : Int))))).setCell ⟨f.fb, 0, none⟩ (.slice ba kp kp)).setCell ⟨f.fb, 1, none⟩ (.int .i64 kp))) := Lib.hid (fun W hW => by
          obtain ⟨hd, hs⟩ := crash_put (hI.disk.grow hW) hm hbv hkl.2 ((tot (vw fs') : Int) - ((f.b.length : Int) - (kp : Int)))
          have hv := vw_cut hI.disk.names hm (.slice ba kp kp) kp
          have ht := tot_cut hI.disk.names hm hkl.2
          rw [← hv] at ht
          have hsep := (hI.sep.trans (Sep.ofGrow hW)).trans hs
          refine ⟨i + 1, putF f.name (.slice ba kp kp) (f.b.take kp) kp fs', by simp, hlt, ?_, ?_, ?_, hsep, ?_, by omega⟩
          · have : ((tot (vw (putF f.name (.slice ba kp kp) (f.b.take kp) kp fs')) : Nat) : Int) = (tot (vw fs') : Int) - ((f.b.length : Int) - (kp : Int)) := by omega
            rw [this]; exact hd
          · rw [hI.run]
            have hdr : ns.drop i = n :: ns.drop (i + 1) := by
              obtain ⟨h5, rfl⟩ := List.getElem?_eq_some_iff.1 hn
              exact List.drop_eq_getElem_cons h5
            rw [hdr, crashV, lookV_file, hfo]
            simp only [Option.map_some]
            rw [← hkp, hv, hfn]
          · rw [hv, names_cut]; exact hI.names
          · have hnf := (hI.disk.grow hW).apart (hW.heap hI.row) (by decide) (by decide) (by decide)
            rw [hs.out gN (lt_of_getElem? (hW.heap hI.row)) hnf]
            exact hW.heap hI.row)
        have ff : ∀ W : World, Grow wr W → (∀ j, W.frozen? ⟨p, j, none⟩ = false) ∧ (∀ j, W.frozen? ⟨f.fb, j, none⟩ = false) := fun W hW => ⟨fun j => by simp [World.frozen?, hW.heap hI.disk.self], fun j => by simp [World.frozen?, hW.heap hfa.cell]⟩
        have hfp : f.fb ≠ p := (hI.disk.fb_ne hm).1
        have hpf : p ≠ f.fb := Ne.symm hfp
        have hfp2 : (f.fb = p) = False := by simpa using hfp
        have hpf2 : (p = f.fb) = False := by simpa using hpf
        clear hI hfa hbv hm hfo hn
        have hcl := Grow.cells (w := wr)
        have hgd : Grow wr wr.drew := Grow.drew wr
        by_cases hpi : i < picks.length
        · obtain ⟨k, hk⟩ : ∃ k, picks[i]? = some k := ⟨picks[i], by simp [hpi]⟩
          obtain ⟨pb, po, rfl, lpb, hpc⟩ : ∃ b o, pa = some ⟨b, o, none⟩ ∧ b < wr.heap.size ∧ ∀ (j : Nat) (k : Int), picks[j]? = some k → wr.cell? ⟨b, o + j, none⟩ = some (.int .i64 k) := by
            obtain ⟨a', c', he, _, h5⟩ := hpk
            cases he
            rcases h5 with h5 | h5
            · rw [h5] at hpi; simp at hpi
            · exact h5
          have pk := hpc i k hk
          have hpi1 : (i : Int) < (picks.length : Int) := by omega
          by_cases hk0 : 0 ≤ k
          · have e1 : decide ((0 : Int) ≤ k) = true := by simpa using hk0
            have hkv : (kp : Int) = (f.synced : Int) + k % (((f.b.length - f.synced + 1 : Nat)) : Int) := by
              rw [hkp]; unfold keptD; rw [hk]; simp only [if_pos hk0]
              have := Int.emod_nonneg k (b := ((f.b.length - f.synced + 1 : Nat) : Int)) (by omega)
              omega
            clear hpc hk hpk hkp
            go_upto_region 6 with fail
            have hw5 : IntKind.i64.wrap ((f.b.length : Int) - (f.synced : Int)) = (f.b.length : Int) - (f.synced : Int) := IntWalk.i64_in _ (by omega)
            have hw6 : IntKind.i64.wrap ((f.b.length : Int) - (f.synced : Int) + 1) = (f.b.length : Int) - (f.synced : Int) + 1 := IntWalk.i64_in _ (by omega)
            have hnz : ¬ ((f.b.length : Int) - (f.synced : Int) + 1 = 0) := by omega
            refine wp_region_pi (fun W => Below wr.heap.size wr W) [(0, false), (1, false), (2, false), (3, false), (4, false), (5, false), (6, false), (7, false), (8, false), (9, false), (10, false), (11, false), (12, false), (13, false), (14, false), (15, false), (16, false), (17, false), (18, false)] (by kernel_rfl) (by kernel_rfl) (fun c a d v w h => by cases d <;> exact h) (Grow.drew _) ?_
            simp only [arrange, nth]
            repeat (first | (refine wpPi_quiet (v := ?_) (by rfl) (fun W hW => ?_) ?_; rotate_left; (obtain hW := hW; go_simp; with_reducible rfl); simp only [Act.put, List.setIfInBounds_toArray, List.set_cons_zero, List.set_cons_succ]) | (refine wpPi_off (by rfl) ?_; simp only [Act.put, List.setIfInBounds_toArray, List.set_cons_zero, List.set_cons_succ]))
            refine wpPi_nil ?_
            have h7 : IntKind.i64.wrap ((f.synced : Int) + k.tmod ((f.b.length : Int) - (f.synced : Int) + 1)) = (kp : Int) := by
              rw [Int.tmod_eq_emod_of_nonneg hk0, show ((f.b.length : Int) - (f.synced : Int) + 1) = ((f.b.length - f.synced + 1 : Nat) : Int) by omega, ← hkv]
              exact IntWalk.i64_in _ (by omega)
            rw [h7]
            clear h7 hkv
            go_upto_region 7 with fail
            have hw3g : Grow wr wr.drew := (Grow.drew wr)
            have Hrel := Lib.hid (Hrel'.out (wr.drew).drew (hw3g.trans (Grow.drew _)))
            have hw1' : IntKind.i64.wrap ((f.b.length : Int) - (kp : Int)) = (f.b.length : Int) - (kp : Int) := IntWalk.i64_in _ (by omega)
            have hw2' : IntKind.i64.wrap ((tot (vw fs') : Int) - ((f.b.length : Int) - (kp : Int))) = (tot (vw fs') : Int) - ((f.b.length : Int) - (kp : Int)) := IntWalk.i64_in _ (by omega)
            obtain ⟨ff1, ff2⟩ := ff wr (Grow.refl _)
            have hcb : kp ≤ bc := by omega
            clear Hrel' ff hw3g
            refine wp_region_last (fun W => Below wr.heap.size wr W) [(0, false), (1, false), (2, false), (3, false), (4, false), (5, false), (6, false), (7, false), (8, false), (9, false), (10, false), (11, false), (12, false), (13, false)] 14 (by kernel_rfl) (by kernel_rfl) (fun c a d v w h => by cases d <;> exact h) ((Grow.drew wr).trans (Grow.drew _)) ?_
            simp only [arrange, nth]
            repeat (first | (refine wpPi_quiet (v := ?_) (by rfl) (fun W hW => ?_) ?_; rotate_left; (obtain hW := hW; go_simp; with_reducible rfl); simp only [Act.put, List.setIfInBounds_toArray, List.set_cons_zero, List.set_cons_succ]) | (refine wpPi_off (by rfl) ?_; simp only [Act.put, List.setIfInBounds_toArray, List.set_cons_zero, List.set_cons_succ]))
            refine wpPi_nil ?_
            refine lastQ_act (by rfl) (fun K hK => ?_)
            go_simp
            refine hK _ _ ?_
            clear hK K hcl
            try simp only [Act.put, List.setIfInBounds_toArray, List.set_cons_zero, List.set_cons_succ]
            go_wp2
            go_roundw
            case rel => exact Hrel.out
            case measure => simp [intOf]; omega
          · have e1 : decide ((0 : Int) ≤ k) = false := by simpa using hk0
            have hkv : kp = f.synced := by rw [hkp]; unfold keptD; rw [hk]; simp only [if_neg hk0]
            clear hpc hk hpk hkp
            subst hkv
            go_upto_region 7 with fail
            have hw3g : Grow wr wr := (Grow.refl wr)
            have Hrel := Lib.hid (Hrel'.out (wr).drew (hw3g.trans (Grow.drew _)))
            have hw1' : IntKind.i64.wrap ((f.b.length : Int) - (f.synced : Int)) = (f.b.length : Int) - (f.synced : Int) := IntWalk.i64_in _ (by omega)
            have hw2' : IntKind.i64.wrap ((tot (vw fs') : Int) - ((f.b.length : Int) - (f.synced : Int))) = (tot (vw fs') : Int) - ((f.b.length : Int) - (f.synced : Int)) := IntWalk.i64_in _ (by omega)
            obtain ⟨ff1, ff2⟩ := ff wr hw3g
            have hcb : f.synced ≤ bc := by omega
            clear Hrel' ff hw3g
            refine wp_region_last (fun W => Below wr.heap.size wr W) [(0, false), (1, false), (2, false), (3, false), (4, false), (5, false), (6, false), (7, false), (8, false), (9, false), (10, false), (11, false), (12, false), (13, false)] 14 (by kernel_rfl) (by kernel_rfl) (fun c a d v w h => by cases d <;> exact h) ((Grow.refl wr).trans (Grow.drew _)) ?_
            simp only [arrange, nth]
            repeat (first | (refine wpPi_quiet (v := ?_) (by rfl) (fun W hW => ?_) ?_; rotate_left; (obtain hW := hW; go_simp; with_reducible rfl); simp only [Act.put, List.setIfInBounds_toArray, List.set_cons_zero, List.set_cons_succ]) | (refine wpPi_off (by rfl) ?_; simp only [Act.put, List.setIfInBounds_toArray, List.set_cons_zero, List.set_cons_succ]))
            refine wpPi_nil ?_
            refine lastQ_act (by rfl) (fun K hK => ?_)
            go_simp
            refine hK _ _ ?_
            clear hK K hcl
            try simp only [Act.put, List.setIfInBounds_toArray, List.set_cons_zero, List.set_cons_succ]
            go_wp2
            go_roundw
            case rel => exact Hrel.out
            case measure => simp [intOf]; omega
        · have hkv : kp = f.synced := by rw [hkp]; unfold keptD; rw [List.getElem?_eq_none (by omega)]
          have hpi1 : ¬ (i : Int) < (picks.length : Int) := by omega
          clear hpk hkp
          subst hkv
          go_upto_region 7 with fail
          have hw3g : Grow wr wr := (Grow.refl wr)
          have Hrel := Lib.hid (Hrel'.out (wr).drew (hw3g.trans (Grow.drew _)))
          have hw1' : IntKind.i64.wrap ((f.b.length : Int) - (f.synced : Int)) = (f.b.length : Int) - (f.synced : Int) := IntWalk.i64_in _ (by omega)
          have hw2' : IntKind.i64.wrap ((tot (vw fs') : Int) - ((f.b.length : Int) - (f.synced : Int))) = (tot (vw fs') : Int) - ((f.b.length : Int) - (f.synced : Int)) := IntWalk.i64_in _ (by omega)
          obtain ⟨ff1, ff2⟩ := ff wr hw3g
          have hcb : f.synced ≤ bc := by omega
          clear Hrel' ff hw3g
          refine wp_region_last (fun W => Below wr.heap.size wr W) [(0, false), (1, false), (2, false), (3, false), (4, false), (5, false), (6, false), (7, false), (8, false), (9, false), (10, false), (11, false), (12, false), (13, false)] 14 (by kernel_rfl) (by kernel_rfl) (fun c a d v w h => by cases d <;> exact h) ((Grow.refl wr).trans (Grow.drew _)) ?_
          simp only [arrange, nth]
          repeat (first | (refine wpPi_quiet (v := ?_) (by rfl) (fun W hW => ?_) ?_; rotate_left; (obtain hW := hW; go_simp; with_reducible rfl); simp only [Act.put, List.setIfInBounds_toArray, List.set_cons_zero, List.set_cons_succ]) | (refine wpPi_off (by rfl) ?_; simp only [Act.put, List.setIfInBounds_toArray, List.set_cons_zero, List.set_cons_succ]))
          refine wpPi_nil ?_
          refine lastQ_act (by rfl) (fun K hK => ?_)
          go_simp
          refine hK _ _ ?_
          clear hK K hcl
          try simp only [Act.put, List.setIfInBounds_toArray, List.set_cons_zero, List.set_cons_succ]
          go_wp2
          go_roundw
          case rel => exact Hrel.out
          case measure => simp [intOf]; omega
      · obtain rfl : i = ns.length := by omega
        have hv := hI.run
        rw [List.drop_length] at hv
        have Hd := Lib.hid hI.disk
        have Hs := Lib.hid hI.sep
        have Hv := Lib.hid hv
        clear hI hv
        go_wp2
        go_end0
        exact ⟨rfl, fs', Hd.out, Hs.out, by rw [Hns.out, Hv.out]; rfl⟩
end Go.Proofs.YtejpcoghkgjanaaGreatDoor
