/- Merged out of M7: helpers. -/
import Derived.Test.YtejpcoghkgjanaaGreatDoorVI
import Derived.Deep.CutRange
import Derived.Deep.DeepCutAuto
/- manifest.apply: the walk. -/
namespace Go.Proofs.YtejpcoghkgjanaaGreatDoor.Mn
open Go.RowKit Go.Gl

theorem run_buildI2 (w : World) (x y : Int) : (Instr.buildSlice 24 2 #[(0, .int .i64 x), (1, .int .i64 y)]).run Tryz.prog w = .ok (.slice (some ⟨w.heap.size, 0, none⟩) 2 2) (w.alloc (.cells #[.int .i64 x, .int .i64 y] 3)) := by
  simp [Instr.buildSlice, run_underlying Tryz.underlying24, Tryz.sizeOf3, Tryz.zeroValue3, Instr.fill, newRow, Value.cells]
  congr 2
  apply Array.ext
  · simp
  · intro i h1 h2
    simp at h1
    match i, h1 with
    | 0, _ => simp
    | 1, _ => simp

theorem run_buildU2 (w : World) (x y : Int) : (Instr.buildSlice 140 2 #[(0, .int .u64 x), (1, .int .u64 y)]).run Tryz.prog w = .ok (.slice (some ⟨w.heap.size, 0, none⟩) 2 2) (w.alloc (.cells #[.int .u64 x, .int .u64 y] 36)) := by
  simp [Instr.buildSlice, run_underlying Tryz.underlying140, Tryz.sizeOf36, Tryz.zeroValue36, Instr.fill, newRow, Value.cells]
  congr 2
  apply Array.ext
  · simp
  · intro i h1 h2
    simp at h1
    match i, h1 with
    | 0, _ => simp
    | 1, _ => simp

set_option maxRecDepth 100000 in
set_option maxHeartbeats 8000000 in
theorem apply_ok : ApplyOk := by
  intro w tv V av dv E h
  have hbx := Boxes.start w tv V.seq V.next V.wal av dv E.seq E.next E.wal
  obtain ⟨ta, tc, rfl⟩ := own_slice h.own
  obtain ⟨da, dc, rfl, hdcap, hdr⟩ := h.drops
  obtain ⟨aa, ac, rfl, har⟩ := h.adds
  obtain ⟨v0, v1, v2, v3⟩ := cells4 hbx.vb
  obtain ⟨e0, e1, e2, e3, e4⟩ := cells5 hbx.eb
  have lv := lt_of_getElem? hbx.vb
  have le := lt_of_getElem? hbx.eb
  have lr := lt_of_getElem? hbx.rb
  have H := Lib.hid h
  have Hbx := Lib.hid hbx
  have Hdr := Lib.hid hdr
  have Har := Lib.hid har
  have hlen := h.len
  have hdl := h.dlen
  have hal := h.alen
  clear h hbx hdr har
  go_enter Tryz.func23, Tryz.ntmps23
  go_wp2_with fail
  generalize ((w.alloc (.cells (verCells (.slice ta V.tabs.length tc) V.seq V.next V.wal) 38)).alloc (.cells (edCells (.slice aa E.add.length ac) (.slice da E.drop.length dc) E.seq E.next E.wal) 41)).alloc (.cells (verCells (.slice none 0 0) 0 0 0) 38) = W0 at *
  go_loopw [13] (fun iv wr => DropInv W0 V.tabs E.drop iv wr) (fun iv _ => E.drop.length - (intOf iv).toNat)
  case atStart => exact ⟨0, rfl, Nat.zero_le _, rfl, Grow.refl _⟩
  case round =>
    obtain ⟨i, rfl, hi, hdb, hg⟩ := hrel
    by_cases hlt : i < E.drop.length
    · obtain ⟨n, hn⟩ : ∃ n, E.drop[i]? = some n := ⟨E.drop[i], by simp [hlt]⟩
      have hbw := Hbx.out.grow hg
      clear v0 v1 v2 v3 e0 e1 e2 e3 e4
      obtain ⟨v0, v1, v2, v3⟩ := cells4 hbw.vb
      obtain ⟨e0, e1, e2, e3, e4⟩ := cells5 hbw.eb
      obtain ⟨r0, r1, r2, r3⟩ := cells4 hbw.rb
      have lv2 := lt_of_getElem? hbw.vb
      have le2 := lt_of_getElem? hbw.eb
      have lr2 := lt_of_getElem? hbw.rb
      have hst := drops_step (l := V.tabs) hn
      obtain ⟨b, o, rfl, hbl, hdc⟩ : ∃ b o, da = some ⟨b, o, none⟩ ∧ b < w.heap.size ∧ ∀ (j : Nat) (k : Int), E.drop[j]? = some k → w.cell? ⟨b, o + j, none⟩ = some (.int .i64 k) := by
        rcases Hdr.out with h1 | h1
        · rw [h1] at hlt; simp at hlt
        · exact h1
      have c0 := hdc i n hn
      rw [← Grow.cells _ _ _ hbw.gr hbl] at c0
      have hhas := has_any (owns_grow H.out.own hbw.gr) (by omega) n
      have hi1 : (i : Int) < (E.drop.length : Int) := by omega
      have hi0 : (0 : Int) ≤ (i : Int) := by omega
      have Hhas := Lib.hid hhas
      have Hbw := Lib.hid hbw
      have Hdc := Lib.hid hdc
      have Hst := Lib.hid hst
      have Hdb := Lib.hid hdb
      clear hhas hbw hdc hst hdb hn
      cases hh : hasF V.tabs n with
      | false =>
        rw [hh] at Hhas
        have Hres : Hid (applyD V E = (4, verZero)) := Lib.hid (by unfold applyD; rw [if_pos (by rw [Hdb.out, Hst.out, hh]; rfl)])
        clear hh
        go_wp2_with fail
        (with_reducible refine Hhas.out.mono ?_)
        rintro e w1 ⟨rfl, hg1⟩
        have hbw1 := Hbw.out.grow hg1
        have lr3 := lt_of_getElem? hbw1.rb
        have fr : ∀ i, w1.frozen? ⟨w.heap.size + 1 + 1, i, none⟩ = false := fun i => by simp [World.frozen?, hbw1.rb]
        obtain ⟨s0, s1, s2, s3⟩ := cells4 hbw1.rb
        have Hgr1 := Lib.hid hbw1.gr
        clear hbw1 hg1
        go_wp2
        refine bodyPost_ret (v := .tuple #[.agg (verCells (.slice none 0 0) 0 0 0), .int .i64 4]) (by simp [results, Tryz.results23, go_sem, *]) rfl (by
          rw [Hres.out]
          refine ⟨_, rfl, World.ownsRow_nil _ _ _ _, ?_⟩
          have hgw := Hgr1.out
          (repeat (first | exact Below.refl _ _ | assumption | refine Below.drew ?_ | refine bDrewN ?_ | refine Below.setCell ?_ (by first | omega | (simp <;> omega)) _ | refine Below.alloc ?_ (by first | omega | (simp <;> omega)) _)))
      | true =>
        rw [hh] at Hhas
        cases hcn : (E.drop.take i).contains n with
        | true =>
          have Hres : Hid (applyD V E = (4, verZero)) := Lib.hid (by unfold applyD; rw [if_pos (by rw [Hdb.out, Hst.out, hh, hcn]; rfl)])
          go_wp2_with fail
          (with_reducible refine Hhas.out.mono ?_)
          rintro e w1 ⟨rfl, hg1⟩
          have hbw1 := Hbw.out.grow hg1
          clear v0 v1 v2 v3 e0 e1 e2 e3 e4
          obtain ⟨e0, e1, e2, e3, e4⟩ := cells5 hbw1.eb
          have le3 := lt_of_getElem? hbw1.eb
          have lr3 := lt_of_getElem? hbw1.rb
          have fr : ∀ i, w1.frozen? ⟨w.heap.size + 1 + 1, i, none⟩ = false := fun i => by simp [World.frozen?, hbw1.rb]
          obtain ⟨s0, s1, s2, s3⟩ := cells4 hbw1.rb
          have hct := contains_some w1 b o i dc E.drop n hi (by omega) (fun j k hk => by rw [Grow.cells _ _ _ hbw1.gr hbl]; exact Hdc.out j k hk)
          rw [hcn] at hct
          have Hct := Lib.hid hct
          have Hgr1 := Lib.hid hbw1.gr
          have hile : (i : Int) ≤ (E.drop.length : Int) := by omega
          have hile2 : (i : Int) ≤ (dc : Int) := by omega
          clear hbw1 hg1 hct hh hcn
          go_wp2_with fail
          (with_reducible refine Hct.out.mono ?_)
          rintro e w2 ⟨rfl, rfl⟩
          go_wp2
          refine bodyPost_ret (v := .tuple #[.agg (verCells (.slice none 0 0) 0 0 0), .int .i64 4]) (by simp [results, Tryz.results23, go_sem, *]) rfl (by
            rw [Hres.out]
            refine ⟨_, rfl, World.ownsRow_nil _ _ _ _, ?_⟩
            have hgw := Hgr1.out
            (repeat (first | exact Below.refl _ _ | assumption | refine Below.drew ?_ | refine bDrewN ?_ | refine Below.setCell ?_ (by first | omega | (simp <;> omega)) _ | refine Below.alloc ?_ (by first | omega | (simp <;> omega)) _)))
        | false =>
          have Hfin : Hid (dropsBad V.tabs [] E.drop = dropsBad V.tabs (E.drop.take (i + 1)) (E.drop.drop (i + 1))) := Lib.hid (by rw [Hdb.out, Hst.out, hh, hcn]; rfl)
          go_wp2_with fail
          (with_reducible refine Hhas.out.mono ?_)
          rintro e w1 ⟨rfl, hg1⟩
          have hbw1 := Hbw.out.grow hg1
          clear v0 v1 v2 v3 e0 e1 e2 e3 e4
          obtain ⟨e0, e1, e2, e3, e4⟩ := cells5 hbw1.eb
          have le3 := lt_of_getElem? hbw1.eb
          have hct := contains_some w1 b o i dc E.drop n hi (by omega) (fun j k hk => by rw [Grow.cells _ _ _ hbw1.gr hbl]; exact Hdc.out j k hk)
          rw [hcn] at hct
          have Hct := Lib.hid hct
          have Hg1 := Lib.hid (hg.trans hg1)
          have hile : (i : Int) ≤ (E.drop.length : Int) := by omega
          have hile2 : (i : Int) ≤ (dc : Int) := by omega
          clear hbw1 hg1 hct hh hcn
          go_wp2_with fail
          (with_reducible refine Hct.out.mono ?_)
          rintro e w2 ⟨rfl, rfl⟩
          go_wp2
          go_roundw
          case rel => exact ⟨i + 1, rfl, hlt, Hfin.out, Hg1.out⟩
          case measure => simp [intOf]; omega
    · obtain rfl : i = E.drop.length := by omega
      have hnb : dropsBad V.tabs [] E.drop = false := by rw [hdb, List.drop_length]; rfl
      have hbw := Hbx.out.grow hg
      clear v0 v1 v2 v3 e0 e1 e2 e3 e4
      obtain ⟨v0, v1, v2, v3⟩ := cells4 hbw.vb
      obtain ⟨e0, e1, e2, e3, e4⟩ := cells5 hbw.eb
      have lv2 := lt_of_getElem? hbw.vb
      have le2 := lt_of_getElem? hbw.eb
      have lr2 := lt_of_getElem? hbw.rb
      have hown := owns_grow H.out.own hbw.gr
      have hcl := clone_any hown (by omega)
      have Hcl := Lib.hid hcl
      have Hbw := Lib.hid hbw
      have Hnb := Lib.hid hnb
      clear hcl hown hbw hnb hdb hg
      go_wp2_with fail
      (with_reducible refine Hcl.out.mono ?_)
      rintro e w1 ⟨cv, rfl, hown1, hg1⟩
      have hbw1 := Hbw.out.grow hg1
      have hdel := del_any (w0 := wr) hown1 (by omega) hg1.size (eb := w.heap.size + 1) (by omega) hbw1.eb hg1 (H.out.drops.grow Hbw.out.gr) (Nat.le_refl _) (by omega)
      have Hdel := Lib.hid hdel
      obtain ⟨ca, cc, rfl⟩ := own_slice hown1
      have Hbw1 := Lib.hid hbw1
      have Hg1 := Lib.hid hg1
      clear hdel hown1 hbw1 hg1
      go_wp2_with fail
      (with_reducible refine Hdel.out.mono ?_)
      rintro e w2 ⟨cv2, rfl, hown2, hb2⟩
      obtain ⟨B1, hB1e⟩ : ∃ B1, B1 = wr.heap.size := ⟨_, rfl⟩
      have hBB : w.heap.size + 1 + 1 < B1 := by omega
      have hbw2 := Hbw1.out.below (B := B1) (by rw [hB1e]; exact hb2) hBB
      have hbw3 := hbw2.setV cv2
      have hown3 := own_other (i := 0) (x := cv2) hown2 hbw2.vb (by decide)
      have hB1 : B1 ≤ w2.heap.size := by rw [hB1e]; exact Nat.le_trans Hg1.out.size hb2.size
      obtain ⟨xa, xc, rfl⟩ := own_slice hown2
      clear v0 v1 v2 v3 e0 e1 e2 e3 e4
      obtain ⟨v0, v1, v2, v3⟩ := cells4 hbw2.vb
      obtain ⟨e0, e1, e2, e3, e4⟩ := cells5 hbw2.eb
      have lv3 := lt_of_getElem? hbw2.vb
      have le3 := lt_of_getElem? hbw2.eb
      have lr3 := lt_of_getElem? hbw2.rb
      have fv3 : ∀ i, w2.frozen? ⟨w.heap.size, i, none⟩ = false := fun i => by simp [World.frozen?, hbw2.vb]
      have Hbw3 := Lib.hid hbw3
      have Hown3 := Lib.hid hown3
      rw [← hB1e] at Hown3
      have hfl : (V.tabs.filter (keepT E.drop)).length ≤ 10000 := Nat.le_trans (List.length_filter_le _ _) hlen
      clear hbw2 hbw3 hown2 hown3 hb2 Hdel Hcl
      go_wp2_with fail
      generalize hw3 : w2.setCell ⟨w.heap.size, 0, none⟩ (.slice xa (V.tabs.filter (keepT E.drop)).length xc) = W3 at *
      have hB3 : B1 ≤ W3.heap.size := by rw [← hw3]; simpa using hB1
      clear hw3 hB1
      go_loopw [42] (fun iv wr => AddInv w B1 V E (.slice aa E.add.length ac) (.slice da E.drop.length dc) iv wr) (fun iv _ => E.add.length - (intOf iv).toNat)
      case atStart => exact ⟨0, _, _, rfl, Nat.zero_le _, Hbw3.out, Hown3.out, rfl, by omega, hB3⟩
      case round =>
        obtain ⟨i, cv, cur, rfl, hi, hbw4, hown, hadd, hcl, hB1⟩ := hrel
        have hgr4 := hbw4.gr
        clear v0 v1 v2 v3 e0 e1 e2 e3 e4
        by_cases hlt : i < E.add.length
        · obtain ⟨t, ht⟩ : ∃ t, E.add[i]? = some t := ⟨E.add[i], by simp [hlt]⟩
          obtain ⟨b, o, rfl, hbl, hrd⟩ : ∃ b o, aa = some ⟨b, o, none⟩ ∧ b < w.heap.size ∧ Rd w b o encTb 5 E.add := by
            rcases Har.out with h1 | h1
            · rw [h1] at hlt; simp at hlt
            · exact h1
          have hrd4 := hrd.grow hbl hgr4 i t ht
          obtain ⟨f0, f1, f2, f3, f4⟩ := t
          have a0 := hrd4 0 _ rfl
          have a1 := hrd4 1 _ rfl
          have a2 := hrd4 2 _ rfl
          have a3 := hrd4 3 _ rfl
          have a4 := hrd4 4 _ rfl
          simp only [Nat.add_zero] at a0
          dsimp only at a0 a1 a2 a3 a4
          have hstep := adds_step (l := cur) ht
          have hgt : Grow wr (wr.alloc (.cells #[.int .i64 f0, .int .i64 f1, .string f2, .string f3, .int .i64 f4] 51)) := Grow.alloc _ _
          have htb : (wr.alloc (.cells #[.int .i64 f0, .int .i64 f1, .string f2, .string f3, .int .i64 f4] 51)).heap[wr.heap.size]? = some (.cells #[.int .i64 f0, .int .i64 f1, .string f2, .string f3, .int .i64 f4] 51 (0, 0)) := heap_alloc_new _ _
          have hbwa := hbw4.grow hgt
          have hhas := has_any (owns_grow hown hgt) (by omega) f0
          obtain ⟨ca, cc, rfl⟩ := own_slice hown
          obtain ⟨v0, v1, v2, v3⟩ := cells4 hbwa.vb
          obtain ⟨e0, e1, e2, e3, e4⟩ := cells5 hbwa.eb
          obtain ⟨r0, r1, r2, r3⟩ := cells4 hbwa.rb
          obtain ⟨t0, t1, t2, t3, t4⟩ := cells5 htb
          have lv4 := lt_of_getElem? hbw4.vb
          have le4 := lt_of_getElem? hbw4.eb
          have lr4 := lt_of_getElem? hbw4.rb
          have lb4 : b < wr.heap.size := Nat.lt_of_lt_of_le hbl hgr4.size
          have fr4 : ∀ i, (wr.alloc (.cells #[.int .i64 f0, .int .i64 f1, .string f2, .string f3, .int .i64 f4] 51)).frozen? ⟨w.heap.size + 1 + 1, i, none⟩ = false := fun i => by simp [World.frozen?, hbwa.rb]
          obtain ⟨rr0, rr1, rr2, rr3⟩ := cells4 hbw4.rb
          have frr : ∀ i, wr.frozen? ⟨w.heap.size + 1 + 1, i, none⟩ = false := fun i => by simp [World.frozen?, hbw4.rb]
          have hi1 : (i : Int) < (E.add.length : Int) := by omega
          have hi0 : (0 : Int) ≤ (i : Int) := by omega
          have Hhas := Lib.hid hhas
          have Hbw4 := Lib.hid hbwa
          have Hadd := Lib.hid hadd
          have Hstep := Lib.hid hstep
          have Hown := Lib.hid hown
          have Hgt := Lib.hid hgt
          have Htb := Lib.hid htb
          have hfree : True := trivial
          have Hgr4 := Lib.hid hgr4
          clear hhas hbwa hbw4 hadd hstep hown hgt htb hrd hrd4 ht hgr4
          cases h1 : decide (f0 < 0) with
          | true =>
            have Hres : Hid (applyD V E = (1, verZero)) := Lib.hid (by
              have hbad : addBad cur ⟨f0, f1, f2, f3, f4⟩ = true := by simp only [addBad, h1]; rfl
              unfold applyD
              rw [if_neg (by rw [Hnb.out]; decide), Hadd.out, Hstep.out, if_pos hbad])
            have Hgr := Hgr4
            clear hfree
            go_wp2
            refine bodyPost_ret (v := .tuple #[.agg (verCells (.slice none 0 0) 0 0 0), .int .i64 1]) (by simp [results, Tryz.results23, go_sem, *]) rfl (by
              rw [Hres.out]
              refine ⟨_, rfl, World.ownsRow_nil _ _ _ _, ?_⟩
              have hgw := Hgr.out
              (repeat (first | exact Below.refl _ _ | assumption | refine Below.drew ?_ | refine bDrewN ?_ | refine Below.setCell ?_ (by first | omega | (simp <;> omega)) _ | refine Below.alloc ?_ (by first | omega | (simp <;> omega)) _)))
          | false =>
            cases h2 : hasF cur f0 with
            | true =>
              have Hres : Hid (applyD V E = (1, verZero)) := Lib.hid (by
                have hbad : addBad cur ⟨f0, f1, f2, f3, f4⟩ = true := by simp only [addBad, h1, h2]; rfl
                unfold applyD
                rw [if_neg (by rw [Hnb.out]; decide), Hadd.out, Hstep.out, if_pos hbad])
              rw [h2] at Hhas
              go_wp2_with fail
              (with_reducible refine Hhas.out.mono ?_)
              rintro e w5 ⟨rfl, hg5⟩
              have hbw5 := Hbw4.out.grow hg5
              clear v0 v1 v2 v3 e0 e1 e2 e3 e4 r0 r1 r2 r3 t0 t1 t2 t3 t4
              obtain ⟨v0, v1, v2, v3⟩ := cells4 hbw5.vb
              obtain ⟨r0, r1, r2, r3⟩ := cells4 hbw5.rb
              obtain ⟨t0, t1, t2, t3, t4⟩ := cells5 (hg5.heap Htb.out)
              have lv5 := lt_of_getElem? hbw5.vb
              have lr5 := lt_of_getElem? hbw5.rb
              have lt5 := lt_of_getElem? (hg5.heap Htb.out)
              have fv5 : ∀ i, w5.frozen? ⟨w.heap.size, i, none⟩ = false := fun i => by simp [World.frozen?, hbw5.vb]
              have fr5 : ∀ i, w5.frozen? ⟨w.heap.size + 1 + 1, i, none⟩ = false := fun i => by simp [World.frozen?, hbw5.rb]
              have Hgr := Lib.hid hbw5.gr
              clear hbw5 hg5 h2 fv5
              go_wp2
              refine bodyPost_ret (v := .tuple #[.agg (verCells (.slice none 0 0) 0 0 0), .int .i64 1]) (by simp [results, Tryz.results23, go_sem, *]) rfl (by
                rw [Hres.out]
                refine ⟨_, rfl, World.ownsRow_nil _ _ _ _, ?_⟩
                have hgw := Hgr.out
                (repeat (first | exact Below.refl _ _ | assumption | refine Below.drew ?_ | refine bDrewN ?_ | refine Below.setCell ?_ (by first | omega | (simp <;> omega)) _ | refine Below.alloc ?_ (by first | omega | (simp <;> omega)) _)))
            | false =>
              cases h3 : decide (f1 < 0) with
              | true =>
                have Hres : Hid (applyD V E = (1, verZero)) := Lib.hid (by
                  have hbad : addBad cur ⟨f0, f1, f2, f3, f4⟩ = true := by simp only [addBad, h1, h2, h3]; rfl
                  unfold applyD
                  rw [if_neg (by rw [Hnb.out]; decide), Hadd.out, Hstep.out, if_pos hbad])
                rw [h2] at Hhas
                go_wp2_with fail
                (with_reducible refine Hhas.out.mono ?_)
                rintro e w5 ⟨rfl, hg5⟩
                have hbw5 := Hbw4.out.grow hg5
                clear v0 v1 v2 v3 e0 e1 e2 e3 e4 r0 r1 r2 r3 t0 t1 t2 t3 t4
                obtain ⟨v0, v1, v2, v3⟩ := cells4 hbw5.vb
                obtain ⟨r0, r1, r2, r3⟩ := cells4 hbw5.rb
                obtain ⟨t0, t1, t2, t3, t4⟩ := cells5 (hg5.heap Htb.out)
                have lv5 := lt_of_getElem? hbw5.vb
                have lr5 := lt_of_getElem? hbw5.rb
                have lt5 := lt_of_getElem? (hg5.heap Htb.out)
                have fv5 : ∀ i, w5.frozen? ⟨w.heap.size, i, none⟩ = false := fun i => by simp [World.frozen?, hbw5.vb]
                have fr5 : ∀ i, w5.frozen? ⟨w.heap.size + 1 + 1, i, none⟩ = false := fun i => by simp [World.frozen?, hbw5.rb]
                have Hgr := Lib.hid hbw5.gr
                clear hbw5 hg5 h2 fv5
                go_wp2
                refine bodyPost_ret (v := .tuple #[.agg (verCells (.slice none 0 0) 0 0 0), .int .i64 1]) (by simp [results, Tryz.results23, go_sem, *]) rfl (by
                  rw [Hres.out]
                  refine ⟨_, rfl, World.ownsRow_nil _ _ _ _, ?_⟩
                  have hgw := Hgr.out
                  (repeat (first | exact Below.refl _ _ | assumption | refine Below.drew ?_ | refine bDrewN ?_ | refine Below.setCell ?_ (by first | omega | (simp <;> omega)) _ | refine Below.alloc ?_ (by first | omega | (simp <;> omega)) _)))
              | false =>
                cases h4 : decide (6 < f1) with
                | true =>
                  have Hres : Hid (applyD V E = (1, verZero)) := Lib.hid (by
                    have hbad : addBad cur ⟨f0, f1, f2, f3, f4⟩ = true := by simp only [addBad, h1, h2, h3, h4]; rfl
                    unfold applyD
                    rw [if_neg (by rw [Hnb.out]; decide), Hadd.out, Hstep.out, if_pos hbad])
                  rw [h2] at Hhas
                  go_wp2_with fail
                  (with_reducible refine Hhas.out.mono ?_)
                  rintro e w5 ⟨rfl, hg5⟩
                  have hbw5 := Hbw4.out.grow hg5
                  clear v0 v1 v2 v3 e0 e1 e2 e3 e4 r0 r1 r2 r3 t0 t1 t2 t3 t4
                  obtain ⟨v0, v1, v2, v3⟩ := cells4 hbw5.vb
                  obtain ⟨r0, r1, r2, r3⟩ := cells4 hbw5.rb
                  obtain ⟨t0, t1, t2, t3, t4⟩ := cells5 (hg5.heap Htb.out)
                  have lv5 := lt_of_getElem? hbw5.vb
                  have lr5 := lt_of_getElem? hbw5.rb
                  have lt5 := lt_of_getElem? (hg5.heap Htb.out)
                  have fv5 : ∀ i, w5.frozen? ⟨w.heap.size, i, none⟩ = false := fun i => by simp [World.frozen?, hbw5.vb]
                  have fr5 : ∀ i, w5.frozen? ⟨w.heap.size + 1 + 1, i, none⟩ = false := fun i => by simp [World.frozen?, hbw5.rb]
                  have Hgr := Lib.hid hbw5.gr
                  clear hbw5 hg5 h2 fv5
                  go_wp2
                  refine bodyPost_ret (v := .tuple #[.agg (verCells (.slice none 0 0) 0 0 0), .int .i64 1]) (by simp [results, Tryz.results23, go_sem, *]) rfl (by
                    rw [Hres.out]
                    refine ⟨_, rfl, World.ownsRow_nil _ _ _ _, ?_⟩
                    have hgw := Hgr.out
                    (repeat (first | exact Below.refl _ _ | assumption | refine Below.drew ?_ | refine bDrewN ?_ | refine Below.setCell ?_ (by first | omega | (simp <;> omega)) _ | refine Below.alloc ?_ (by first | omega | (simp <;> omega)) _)))
                | false =>
                  cases h5 : (Op.bytesLess f2.toList f3.toList || f2.toList == f3.toList) with
                  | false =>
                    have Hres : Hid (applyD V E = (1, verZero)) := Lib.hid (by
                      have hbad : addBad cur ⟨f0, f1, f2, f3, f4⟩ = true := by simp only [addBad, h1, h2, h3, h4, h5]; rfl
                      unfold applyD
                      rw [if_neg (by rw [Hnb.out]; decide), Hadd.out, Hstep.out, if_pos hbad])
                    rw [h2] at Hhas
                    go_wp2_with fail
                    (with_reducible refine Hhas.out.mono ?_)
                    rintro e w5 ⟨rfl, hg5⟩
                    have hbw5 := Hbw4.out.grow hg5
                    clear v0 v1 v2 v3 e0 e1 e2 e3 e4 r0 r1 r2 r3 t0 t1 t2 t3 t4
                    obtain ⟨v0, v1, v2, v3⟩ := cells4 hbw5.vb
                    obtain ⟨r0, r1, r2, r3⟩ := cells4 hbw5.rb
                    obtain ⟨t0, t1, t2, t3, t4⟩ := cells5 (hg5.heap Htb.out)
                    have lv5 := lt_of_getElem? hbw5.vb
                    have lr5 := lt_of_getElem? hbw5.rb
                    have lt5 := lt_of_getElem? (hg5.heap Htb.out)
                    have fv5 : ∀ i, w5.frozen? ⟨w.heap.size, i, none⟩ = false := fun i => by simp [World.frozen?, hbw5.vb]
                    have fr5 : ∀ i, w5.frozen? ⟨w.heap.size + 1 + 1, i, none⟩ = false := fun i => by simp [World.frozen?, hbw5.rb]
                    have Hgr := Lib.hid hbw5.gr
                    clear hbw5 hg5 h2 fv5
                    go_wp2
                    refine bodyPost_ret (v := .tuple #[.agg (verCells (.slice none 0 0) 0 0 0), .int .i64 1]) (by simp [results, Tryz.results23, go_sem, *]) rfl (by
                      rw [Hres.out]
                      refine ⟨_, rfl, World.ownsRow_nil _ _ _ _, ?_⟩
                      have hgw := Hgr.out
                      (repeat (first | exact Below.refl _ _ | assumption | refine Below.drew ?_ | refine bDrewN ?_ | refine Below.setCell ?_ (by first | omega | (simp <;> omega)) _ | refine Below.alloc ?_ (by first | omega | (simp <;> omega)) _)))
                  | true =>
                    cases h6 : decide (f4 < 0) with
                    | true =>
                      have Hres : Hid (applyD V E = (1, verZero)) := Lib.hid (by
                        have hbad : addBad cur ⟨f0, f1, f2, f3, f4⟩ = true := by simp only [addBad, h1, h2, h3, h4, h5, h6]; rfl
                        unfold applyD
                        rw [if_neg (by rw [Hnb.out]; decide), Hadd.out, Hstep.out, if_pos hbad])
                      rw [h2] at Hhas
                      go_wp2_with fail
                      (with_reducible refine Hhas.out.mono ?_)
                      rintro e w5 ⟨rfl, hg5⟩
                      have hbw5 := Hbw4.out.grow hg5
                      clear v0 v1 v2 v3 e0 e1 e2 e3 e4 r0 r1 r2 r3 t0 t1 t2 t3 t4
                      obtain ⟨v0, v1, v2, v3⟩ := cells4 hbw5.vb
                      obtain ⟨r0, r1, r2, r3⟩ := cells4 hbw5.rb
                      obtain ⟨t0, t1, t2, t3, t4⟩ := cells5 (hg5.heap Htb.out)
                      have lv5 := lt_of_getElem? hbw5.vb
                      have lr5 := lt_of_getElem? hbw5.rb
                      have lt5 := lt_of_getElem? (hg5.heap Htb.out)
                      have fv5 : ∀ i, w5.frozen? ⟨w.heap.size, i, none⟩ = false := fun i => by simp [World.frozen?, hbw5.vb]
                      have fr5 : ∀ i, w5.frozen? ⟨w.heap.size + 1 + 1, i, none⟩ = false := fun i => by simp [World.frozen?, hbw5.rb]
                      have Hgr := Lib.hid hbw5.gr
                      clear hbw5 hg5 h2 fv5
                      go_wp2
                      refine bodyPost_ret (v := .tuple #[.agg (verCells (.slice none 0 0) 0 0 0), .int .i64 1]) (by simp [results, Tryz.results23, go_sem, *]) rfl (by
                        rw [Hres.out]
                        refine ⟨_, rfl, World.ownsRow_nil _ _ _ _, ?_⟩
                        have hgw := Hgr.out
                        (repeat (first | exact Below.refl _ _ | assumption | refine Below.drew ?_ | refine bDrewN ?_ | refine Below.setCell ?_ (by first | omega | (simp <;> omega)) _ | refine Below.alloc ?_ (by first | omega | (simp <;> omega)) _)))
                    | false =>
                      cases h7 : decide (1099511627776 < f0) with
                      | true =>
                        have Hres : Hid (applyD V E = (1, verZero)) := Lib.hid (by
                          have hbad : addBad cur ⟨f0, f1, f2, f3, f4⟩ = true := by simp only [addBad, h1, h2, h3, h4, h5, h6, h7]; rfl
                          unfold applyD
                          rw [if_neg (by rw [Hnb.out]; decide), Hadd.out, Hstep.out, if_pos hbad])
                        rw [h2] at Hhas
                        go_wp2_with fail
                        (with_reducible refine Hhas.out.mono ?_)
                        rintro e w5 ⟨rfl, hg5⟩
                        have hbw5 := Hbw4.out.grow hg5
                        clear v0 v1 v2 v3 e0 e1 e2 e3 e4 r0 r1 r2 r3 t0 t1 t2 t3 t4
                        obtain ⟨v0, v1, v2, v3⟩ := cells4 hbw5.vb
                        obtain ⟨r0, r1, r2, r3⟩ := cells4 hbw5.rb
                        obtain ⟨t0, t1, t2, t3, t4⟩ := cells5 (hg5.heap Htb.out)
                        have lv5 := lt_of_getElem? hbw5.vb
                        have lr5 := lt_of_getElem? hbw5.rb
                        have lt5 := lt_of_getElem? (hg5.heap Htb.out)
                        have fv5 : ∀ i, w5.frozen? ⟨w.heap.size, i, none⟩ = false := fun i => by simp [World.frozen?, hbw5.vb]
                        have fr5 : ∀ i, w5.frozen? ⟨w.heap.size + 1 + 1, i, none⟩ = false := fun i => by simp [World.frozen?, hbw5.rb]
                        have Hgr := Lib.hid hbw5.gr
                        clear hbw5 hg5 h2 fv5
                        go_wp2
                        refine bodyPost_ret (v := .tuple #[.agg (verCells (.slice none 0 0) 0 0 0), .int .i64 1]) (by simp [results, Tryz.results23, go_sem, *]) rfl (by
                          rw [Hres.out]
                          refine ⟨_, rfl, World.ownsRow_nil _ _ _ _, ?_⟩
                          have hgw := Hgr.out
                          (repeat (first | exact Below.refl _ _ | assumption | refine Below.drew ?_ | refine bDrewN ?_ | refine Below.setCell ?_ (by first | omega | (simp <;> omega)) _ | refine Below.alloc ?_ (by first | omega | (simp <;> omega)) _)))
                      | false =>
                        cases h8 : decide (1099511627776 < f4) with
                        | true =>
                          have Hres : Hid (applyD V E = (1, verZero)) := Lib.hid (by
                            have hbad : addBad cur ⟨f0, f1, f2, f3, f4⟩ = true := by simp only [addBad, h1, h2, h3, h4, h5, h6, h7, h8]; rfl
                            unfold applyD
                            rw [if_neg (by rw [Hnb.out]; decide), Hadd.out, Hstep.out, if_pos hbad])
                          rw [h2] at Hhas
                          go_wp2_with fail
                          (with_reducible refine Hhas.out.mono ?_)
                          rintro e w5 ⟨rfl, hg5⟩
                          have hbw5 := Hbw4.out.grow hg5
                          clear v0 v1 v2 v3 e0 e1 e2 e3 e4 r0 r1 r2 r3 t0 t1 t2 t3 t4
                          obtain ⟨v0, v1, v2, v3⟩ := cells4 hbw5.vb
                          obtain ⟨r0, r1, r2, r3⟩ := cells4 hbw5.rb
                          obtain ⟨t0, t1, t2, t3, t4⟩ := cells5 (hg5.heap Htb.out)
                          have lv5 := lt_of_getElem? hbw5.vb
                          have lr5 := lt_of_getElem? hbw5.rb
                          have lt5 := lt_of_getElem? (hg5.heap Htb.out)
                          have fv5 : ∀ i, w5.frozen? ⟨w.heap.size, i, none⟩ = false := fun i => by simp [World.frozen?, hbw5.vb]
                          have fr5 : ∀ i, w5.frozen? ⟨w.heap.size + 1 + 1, i, none⟩ = false := fun i => by simp [World.frozen?, hbw5.rb]
                          have Hgr := Lib.hid hbw5.gr
                          clear hbw5 hg5 h2 fv5
                          go_wp2
                          refine bodyPost_ret (v := .tuple #[.agg (verCells (.slice none 0 0) 0 0 0), .int .i64 1]) (by simp [results, Tryz.results23, go_sem, *]) rfl (by
                            rw [Hres.out]
                            refine ⟨_, rfl, World.ownsRow_nil _ _ _ _, ?_⟩
                            have hgw := Hgr.out
                            (repeat (first | exact Below.refl _ _ | assumption | refine Below.drew ?_ | refine bDrewN ?_ | refine Below.setCell ?_ (by first | omega | (simp <;> omega)) _ | refine Below.alloc ?_ (by first | omega | (simp <;> omega)) _)))
                        | false =>
                          have hgood : addBad cur ⟨f0, f1, f2, f3, f4⟩ = false := by simp only [addBad, h1, h2, h3, h4, h5, h6, h7, h8]; rfl
                          have Hgood := Lib.hid hgood
                          rw [h2] at Hhas
                          go_wp2_with fail
                          (with_reducible refine Hhas.out.mono ?_)
                          rintro e w5 ⟨rfl, hg5⟩
                          have hbw5 := Hbw4.out.grow hg5
                          clear v0 v1 v2 v3 e0 e1 e2 e3 e4 r0 r1 r2 r3 t0 t1 t2 t3 t4
                          obtain ⟨v0, v1, v2, v3⟩ := cells4 hbw5.vb
                          obtain ⟨r0, r1, r2, r3⟩ := cells4 hbw5.rb
                          obtain ⟨t0, t1, t2, t3, t4⟩ := cells5 (hg5.heap Htb.out)
                          have lv5 := lt_of_getElem? hbw5.vb
                          have lr5 := lt_of_getElem? hbw5.rb
                          have lt5 := lt_of_getElem? (hg5.heap Htb.out)
                          have fv5 : ∀ i, w5.frozen? ⟨w.heap.size, i, none⟩ = false := fun i => by simp [World.frozen?, hbw5.vb]
                          have fr5 : ∀ i, w5.frozen? ⟨w.heap.size + 1 + 1, i, none⟩ = false := fun i => by simp [World.frozen?, hbw5.rb]
                          have Hgr := Lib.hid hbw5.gr
                          have hown5 := owns_grow (owns_grow Hown.out Hgt.out) hg5
                          obtain ⟨i0, hi0, hz0, hz1, hz2⟩ := info_parts Tryz.infoT
                          have hnw : (w5.alloc (.cells #[.int .i64 f0, .int .i64 f1, .string f2, .string f3, .int .i64 f4] 51)).heap[w5.heap.size]? = some (.cells #[.int .i64 f0, .int .i64 f1, .string f2, .string f3, .int .i64 f4] 51 (0, 0)) := heap_alloc_new _ _
                          have hB5 : B1 ≤ w5.heap.size := Nat.le_trans (Nat.le_trans hB1 Hgt.out.size) hg5.size
                          obtain ⟨g6, cap6, w6, hrun6, hown6, hgr6, hloc6, hlt6⟩ := run_append_lies (P := Tryz.prog) (w5.alloc (.cells #[.int .i64 f0, .int .i64 f1, .string f2, .string f3, .int .i64 f4] 51)) 35 35 B1 51 i0 _ 5 56 Tryz.underlying35 hi0 hz0 hz1 hz2 rfl (by decide) _ _ _ (hown5.alloc _)
                            ⟨w5.heap.size, 0, none⟩ 1 1 (encTb ⟨f0, f1, f2, f3, f4⟩) rfl (fun j u hu => World.news_of_block hnw j u (by simpa [encTb] using hu)) (encOne _) (by decide) (by unfold maxLen; omega) (by omega) (by simp; omega) _ rfl
                          have hbw6 : Boxes w w6 (.slice ca cur.length cc) V.seq V.next V.wal (.slice (some ⟨b, o, none⟩) E.add.length ac) (.slice da E.drop.length dc) E.seq E.next E.wal := (hbw5.grow (Grow.alloc _ _)).grown hgr6 (fun k hk => ((hown5.lt k hk).1)) (by omega)
                          have hbw7 := hbw6.setV (.slice (some ⟨g6, 0, none⟩) (cur.length + 1) cap6)
                          have hown7 : Own B1 (w6.setCell ⟨w.heap.size, 0, none⟩ (.slice (some ⟨g6, 0, none⟩) (cur.length + 1) cap6)) (.slice (some ⟨g6, 0, none⟩) (cur.length + 1) cap6) (cur ++ [⟨f0, f1, f2, f3, f4⟩]) := by
                            refine own_other ?_ hbw6.vb (by decide)
                            have etc : tcells (cur ++ [(⟨f0, f1, f2, f3, f4⟩ : Tb)]) = tcells cur ++ encTb ⟨f0, f1, f2, f3, f4⟩ := by simp [tcells]
                            rw [List.length_append, etc]
                            exact hown6
                          have Hrel : Hid (AddInv w B1 V E (.slice (some ⟨b, o, none⟩) E.add.length ac) (.slice da E.drop.length dc) (.int .i64 ((i + 1 : Nat) : Int)) (w6.setCell ⟨w.heap.size, 0, none⟩ (.slice (some ⟨g6, 0, none⟩) (cur.length + 1) cap6))) := Lib.hid ⟨i + 1, _, _, rfl, hlt, hbw7, hown7, by rw [Hadd.out, Hstep.out, if_neg (by rw [Hgood.out]; decide)], by simp; omega, by have := hgr6.size; simp at this ⊢; omega⟩
                          have Hrun6 := Lib.hid hrun6
                          obtain ⟨q0, q1, q2, q3⟩ := cells4 hbw6.vb
                          have lq6 := lt_of_getElem? hbw6.vb
                          have fq6 : ∀ i, w6.frozen? ⟨w.heap.size, i, none⟩ = false := fun i => by simp [World.frozen?, hbw6.vb]
                          clear hbw5 hg5 h2 fr5 hown5 hi0 hz0 hz1 hz2 hnw hrun6 hown6 hgr6 hloc6 hlt6 hbw6 hbw7 hown7 hgood
                          go_wp2_with (at_builtin; refine wpList_append rfl rfl rfl rfl Hrun6.out ?_)
                          go_roundw
                          case rel => exact Hrel.out
                          case measure => simp [intOf]; omega
        · obtain rfl : i = E.add.length := by omega
          rw [List.drop_length] at hadd
          have hadd' : addsD (V.tabs.filter (keepT E.drop)) E.add = some cur := hadd
          have hsl : (sortD cur).length = cur.length := (sortD_perm cur).length_eq
          have Hap : Hid (applyD V E = if sharedD (sortD cur) = true then (15, verZero) else if numsBad V E = true then (1, verZero) else (0, ⟨sortD cur, or2 E.seq V.seq, or2 E.next V.next, or2 E.wal V.wal⟩)) := Lib.hid (by
            unfold applyD
            rw [if_neg (by rw [Hnb.out]; decide), hadd']
            dsimp only
            rw [if_neg (by rw [hsl]; omega)])
          have hsort := sort_any hown (by omega)
          have hownlt := hown.lt
          obtain ⟨ca, cc, rfl⟩ := own_slice hown
          obtain ⟨v0, v1, v2, v3⟩ := cells4 hbw4.vb
          have lv4 := lt_of_getElem? hbw4.vb
          have le4 := lt_of_getElem? hbw4.eb
          have lr4 := lt_of_getElem? hbw4.rb
          have Hsort := Lib.hid hsort
          have Hbw4 := Lib.hid hbw4
          have Hlt4 := Lib.hid hownlt
          have hcl2 : (cur.length : Int) ≤ 65536 := by omega
          clear hsort hbw4 hownlt hown hadd hadd' hgr4
          go_wp2_with fail
          (with_reducible refine Hsort.out.mono ?_)
          rintro e w5 ⟨rfl, hown5, hgr5⟩
          have hbw5 := Hbw4.out.grown hgr5 (fun k hk => (Hlt4.out k hk).1) hBB
          have hsh := shared_any hown5 (by rw [hsl]; omega)
          have Hsh := Lib.hid hsh
          have Hown5 := Lib.hid hown5
          have Hbw5 := Lib.hid hbw5
          clear v0 v1 v2 v3
          obtain ⟨v0, v1, v2, v3⟩ := cells4 hbw5.vb
          have lv5 := lt_of_getElem? hbw5.vb
          clear hsh hown5 hgr5 hbw5
          go_wp2_with fail
          (with_reducible refine Hsh.out.mono ?_)
          rintro e w6 ⟨rfl, hg6⟩
          have hbw6 := Hbw5.out.grow hg6
          have hown6 := owns_grow Hown5.out hg6
          clear v0 v1 v2 v3
          obtain ⟨v0, v1, v2, v3⟩ := cells4 hbw6.vb
          obtain ⟨e0, e1, e2, e3, e4⟩ := cells5 hbw6.eb
          obtain ⟨r0, r1, r2, r3⟩ := cells4 hbw6.rb
          have lv6 := lt_of_getElem? hbw6.vb
          have le6 := lt_of_getElem? hbw6.eb
          have lr6 := lt_of_getElem? hbw6.rb
          have fv6 : ∀ i, w6.frozen? ⟨w.heap.size, i, none⟩ = false := fun i => by simp [World.frozen?, hbw6.vb]
          have fr6 : ∀ i, w6.frozen? ⟨w.heap.size + 1 + 1, i, none⟩ = false := fun i => by simp [World.frozen?, hbw6.rb]
          have Hbw6 := Lib.hid hbw6
          have Hown6 := Lib.hid hown6
          have Hgr6 := Lib.hid hbw6.gr
          clear hbw6 hown6 hg6 Hsh Hsort
          cases hshd : sharedD (sortD cur) with
          | true =>
            have Hres : Hid (applyD V E = (15, verZero)) := Lib.hid (by rw [Hap.out, if_pos hshd])
            clear hshd fv6
            go_wp2
            refine bodyPost_ret (v := .tuple #[.agg (verCells (.slice none 0 0) 0 0 0), .int .i64 15]) (by simp [results, Tryz.results23, go_sem, *]) rfl (by
              rw [Hres.out]
              refine ⟨_, rfl, World.ownsRow_nil _ _ _ _, ?_⟩
              have hgw := Hgr6.out
              (repeat (first | exact Below.refl _ _ | assumption | refine Below.drew ?_ | refine bDrewN ?_ | refine Below.setCell ?_ (by first | omega | (simp <;> omega)) _ | refine Below.alloc ?_ (by first | omega | (simp <;> omega)) _)))
          | false =>
          rw [if_neg (by rw [hshd]; decide)] at Hap
          clear hshd
          go_upto_region 20 with fail
          go_cut [110] from 111 to 120 (fun c wx => c = .bool ((E.seq != 0) && decide (E.seq < V.seq)) ∧ wx = w6)
          case first =>
            cases p1 : (E.seq != 0) with
            | false =>
              go_wp2
              go_meet
              exact ⟨by rw [p1]; rfl, rfl⟩
            | true =>
              go_wp2
              go_meet
              exact ⟨by rw [p1]; rfl, rfl⟩
          case rest =>
          obtain ⟨rfl, hwc⟩ := hcut
          have hwc' := hwc.symm
          subst hwc'
          clear hwc
          cases n1 : ((E.seq != 0) && decide (E.seq < V.seq)) with
          | true =>
            have Hres : Hid (applyD V E = (1, verZero)) := Lib.hid (by rw [Hap.out, if_pos (by simp only [numsBad, n1]; rfl)])
            go_wp2
            refine bodyPost_ret (v := .tuple #[.agg (verCells (.slice none 0 0) 0 0 0), .int .i64 1]) (by simp [results, Tryz.results23, go_sem, *]) rfl (by
              rw [Hres.out]
              refine ⟨_, rfl, World.ownsRow_nil _ _ _ _, ?_⟩
              have hgw := Hgr6.out
              (repeat (first | exact Below.refl _ _ | assumption | refine Below.drew ?_ | refine bDrewN ?_ | refine Below.setCell ?_ (by first | omega | (simp <;> omega)) _ | refine Below.alloc ?_ (by first | omega | (simp <;> omega)) _)))
          | false =>
          go_upto_region 21 with fail
          go_cut [110] from 121 to 130 (fun c wx => c = .bool ((E.next != 0) && decide (E.next < V.next)) ∧ wx = w6)
          case first =>
            cases p1 : (E.next != 0) with
            | false =>
              go_wp2
              go_meet
              exact ⟨by rw [p1]; rfl, rfl⟩
            | true =>
              go_wp2
              go_meet
              exact ⟨by rw [p1]; rfl, rfl⟩
          case rest =>
          obtain ⟨rfl, hwc⟩ := hcut
          have hwc' := hwc.symm
          subst hwc'
          clear hwc
          cases n2 : ((E.next != 0) && decide (E.next < V.next)) with
          | true =>
            have Hres : Hid (applyD V E = (1, verZero)) := Lib.hid (by rw [Hap.out, if_pos (by simp only [numsBad, n1, n2]; rfl)])
            go_wp2
            refine bodyPost_ret (v := .tuple #[.agg (verCells (.slice none 0 0) 0 0 0), .int .i64 1]) (by simp [results, Tryz.results23, go_sem, *]) rfl (by
              rw [Hres.out]
              refine ⟨_, rfl, World.ownsRow_nil _ _ _ _, ?_⟩
              have hgw := Hgr6.out
              (repeat (first | exact Below.refl _ _ | assumption | refine Below.drew ?_ | refine bDrewN ?_ | refine Below.setCell ?_ (by first | omega | (simp <;> omega)) _ | refine Below.alloc ?_ (by first | omega | (simp <;> omega)) _)))
          | false =>
          go_upto_region 22 with fail
          go_cut [110] from 131 to 140 (fun c wx => c = .bool ((E.wal != 0) && decide (E.wal < V.wal)) ∧ wx = w6)
          case first =>
            cases p1 : (E.wal != 0) with
            | false =>
              go_wp2
              go_meet
              exact ⟨by rw [p1]; rfl, rfl⟩
            | true =>
              go_wp2
              go_meet
              exact ⟨by rw [p1]; rfl, rfl⟩
          case rest =>
          obtain ⟨rfl, hwc⟩ := hcut
          have hwc' := hwc.symm
          subst hwc'
          clear hwc
          cases n3 : ((E.wal != 0) && decide (E.wal < V.wal)) with
          | true =>
            have Hres : Hid (applyD V E = (1, verZero)) := Lib.hid (by rw [Hap.out, if_pos (by simp only [numsBad, n1, n2, n3]; rfl)])
            go_wp2
            refine bodyPost_ret (v := .tuple #[.agg (verCells (.slice none 0 0) 0 0 0), .int .i64 1]) (by simp [results, Tryz.results23, go_sem, *]) rfl (by
              rw [Hres.out]
              refine ⟨_, rfl, World.ownsRow_nil _ _ _ _, ?_⟩
              have hgw := Hgr6.out
              (repeat (first | exact Below.refl _ _ | assumption | refine Below.drew ?_ | refine bDrewN ?_ | refine Below.setCell ?_ (by first | omega | (simp <;> omega)) _ | refine Below.alloc ?_ (by first | omega | (simp <;> omega)) _)))
          | false =>
          cases n4 : decide (1099511627776 < E.next) with
          | true =>
            have Hres : Hid (applyD V E = (1, verZero)) := Lib.hid (by rw [Hap.out, if_pos (by simp only [numsBad, n1, n2, n3, n4]; rfl)])
            go_wp2
            refine bodyPost_ret (v := .tuple #[.agg (verCells (.slice none 0 0) 0 0 0), .int .i64 1]) (by simp [results, Tryz.results23, go_sem, *]) rfl (by
              rw [Hres.out]
              refine ⟨_, rfl, World.ownsRow_nil _ _ _ _, ?_⟩
              have hgw := Hgr6.out
              (repeat (first | exact Below.refl _ _ | assumption | refine Below.drew ?_ | refine bDrewN ?_ | refine Below.setCell ?_ (by first | omega | (simp <;> omega)) _ | refine Below.alloc ?_ (by first | omega | (simp <;> omega)) _)))
          | false =>
          cases n5 : decide (1099511627776 < E.wal) with
          | true =>
            have Hres : Hid (applyD V E = (1, verZero)) := Lib.hid (by rw [Hap.out, if_pos (by simp only [numsBad, n1, n2, n3, n4, n5]; rfl)])
            go_wp2
            refine bodyPost_ret (v := .tuple #[.agg (verCells (.slice none 0 0) 0 0 0), .int .i64 1]) (by simp [results, Tryz.results23, go_sem, *]) rfl (by
              rw [Hres.out]
              refine ⟨_, rfl, World.ownsRow_nil _ _ _ _, ?_⟩
              have hgw := Hgr6.out
              (repeat (first | exact Below.refl _ _ | assumption | refine Below.drew ?_ | refine bDrewN ?_ | refine Below.setCell ?_ (by first | omega | (simp <;> omega)) _ | refine Below.alloc ?_ (by first | omega | (simp <;> omega)) _)))
          | false =>
          have Hres : Hid (applyD V E = (0, ⟨sortD cur, or2 E.seq V.seq, or2 E.next V.next, or2 E.wal V.wal⟩)) := Lib.hid (by rw [Hap.out, if_neg (by simp only [numsBad, n1, n2, n3, n4, n5]; decide)])
          go_upto_region 26 with fail
          go_cut [] from 148 to 168 (fun wx => T26 w B1 (.slice ca cur.length cc) (sortD cur) V E (.slice aa E.add.length ac) (.slice da E.drop.length dc) true true true wx)
          case first =>
            rename_i J K hJ hK
            refine wp_frame (fun a0 ha0 => ?_)
            have F2 : a0.tmps[2]? = some (.pointer (some ⟨w.heap.size, 0, none⟩)) := by rw [ha0]; rfl
            have F3 : a0.tmps[3]? = some (.pointer (some ⟨w.heap.size + 1, 0, none⟩)) := by rw [ha0]; rfl
            have hsz : a0.tmps.size = 170 := by rw [ha0]; rfl
            have Hrest : Hid (∀ a1 wx, FrameBut [148, 149, 150, 151, 152, 153, 154, 155, 156, 157, 158, 159, 160, 161, 162, 163, 164, 165, 166, 167, 168] a0 a1 → T26 w B1 (.slice ca cur.length cc) (sortD cur) V E (.slice aa E.add.length ac) (.slice da E.drop.length dc) true true true wx → K a1 wx) := Lib.hid (fun a1 wx ha hT => by
              refine hK _ _ (hJ _ _ ?_)
              refine ⟨a1.tmps.getD 148 undef, a1.tmps.getD 149 undef, a1.tmps.getD 150 undef, a1.tmps.getD 151 undef, a1.tmps.getD 152 undef, a1.tmps.getD 153 undef, a1.tmps.getD 154 undef, a1.tmps.getD 155 undef, a1.tmps.getD 156 undef, a1.tmps.getD 157 undef, a1.tmps.getD 158 undef, a1.tmps.getD 159 undef, a1.tmps.getD 160 undef, a1.tmps.getD 161 undef, a1.tmps.getD 162 undef, a1.tmps.getD 163 undef, a1.tmps.getD 164 undef, a1.tmps.getD 165 undef, a1.tmps.getD 166 undef, a1.tmps.getD 167 undef, a1.tmps.getD 168 undef, hT, ha.fill.trans ?_⟩
              subst ha0
              kernel_rfl)
            clear ha0 n1 n2 n3 n4 n5 fr6 r0 r1 r2 r3 hK hJ
            refine wp_region_flow (S26 w V E) (T26L w B1 (.slice ca cur.length cc) (sortD cur) V E (.slice aa E.add.length ac) (.slice da E.drop.length dc)) (Rest w.heap.size) [148, 149, 150, 151, 152, 153, 154, 155, 156, 157, 158, 159, 160, 161, 162, 163, 164, 165, 166, 167, 168] (by kernel_rfl) (by kernel_rfl) (by rw [hsz]; rfl) S26.keep ?_ ?_ (fun a1 W hf => Hrest.out a1 W hf.alike hf.world)
            · exact T26.grow ⟨Hown6.out, Hbw6.out.vb, Hbw6.out.eb, Hbw6.out.rb, Hgr6.out⟩ (Grow.drew _)
            clear Hrest Hown6 Hbw6
            refine ⟨?_, ?_, ?_, ?_, ?_, ?_, ?_, ?_, ?_, ?_, ?_, ?_, ?_, ?_, ?_, ?_, ?_, ?_, ?_, ?_, ?_, ?_, ?_, ?_, True.intro⟩
            · intro listed a W hf hun haf
              have hs1 : a.tmps.size = 170 := hf.alike.size.trans hsz
              have G3 : a.tmps[3]'(by rw [hs1]; decide) = .pointer (some ⟨w.heap.size + 1, 0, none⟩) := tmp_get ((hf.alike.same 3 (by decide)).trans F3) _
              refine wpOp_act rfl (by rfl) (fun K' hK' => ?_)
              go_simp
              exact hK' _ _ ⟨_, rfl, (fun _ _ => rfl), Rest.refl _ _, T26L.other 0 (by decide) (by decide) (by decide)  hf.world⟩
            · intro listed a W hf hun haf
              have hs1 : a.tmps.size = 170 := hf.alike.size.trans hsz
              obtain ⟨v0, s0, q0⟩ := hf.slot 0 148 rfl (after_listed haf 0 (by kernel_rfl))
              have q0' : v0 = _ := q0
              subst q0'
              have G148 := tmp_get s0 (by rw [hs1]; decide)
              obtain ⟨e0, e1, e2, e3, e4⟩ := cells5 hf.world.eb
              have le := lt_of_getElem? hf.world.eb
              refine wpOp_act rfl (by rfl) (fun K' hK' => ?_)
              go_simp
              exact hK' _ _ ⟨_, rfl, (fun _ _ => rfl), Rest.refl _ _, T26L.other 1 (by decide) (by decide) (by decide)  hf.world⟩
            · intro listed a W hf hun haf
              have hs1 : a.tmps.size = 170 := hf.alike.size.trans hsz
              have G2 : a.tmps[2]'(by rw [hs1]; decide) = .pointer (some ⟨w.heap.size, 0, none⟩) := tmp_get ((hf.alike.same 2 (by decide)).trans F2) _
              refine wpOp_act rfl (by rfl) (fun K' hK' => ?_)
              go_simp
              exact hK' _ _ ⟨_, rfl, (fun _ _ => rfl), Rest.refl _ _, T26L.other 2 (by decide) (by decide) (by decide)  hf.world⟩
            · intro listed a W hf hun haf
              have hs1 : a.tmps.size = 170 := hf.alike.size.trans hsz
              obtain ⟨v2, s2, q2⟩ := hf.slot 2 150 rfl (after_listed haf 2 (by kernel_rfl))
              have q2' : v2 = _ := q2
              subst q2'
              have G150 := tmp_get s2 (by rw [hs1]; decide)
              have hny := not_yet hf.closed (n := 6) (e := 19) (i := 3) (by kernel_rfl) hun
              have hv := hf.world.vb0
              rw [hny] at hv
              obtain ⟨e0, e1, e2, e3⟩ := cells4 hv
              have le := lt_of_getElem? hv
              simp only [cond] at e1 e2 e3
              refine wpOp_act rfl (by rfl) (fun K' hK' => ?_)
              go_simp
              exact hK' _ _ ⟨_, rfl, (fun _ _ => rfl), Rest.refl _ _, T26L.other 3 (by decide) (by decide) (by decide)  hf.world⟩
            · intro listed a W hf hun haf
              have hs1 : a.tmps.size = 170 := hf.alike.size.trans hsz
              obtain ⟨v1, s1, q1⟩ := hf.slot 1 149 rfl (after_listed haf 1 (by kernel_rfl))
              have q1' : v1 = _ := q1
              subst q1'
              have G149 := tmp_get s1 (by rw [hs1]; decide)
              obtain ⟨v3, s3, q3⟩ := hf.slot 3 151 rfl (after_listed haf 3 (by kernel_rfl))
              have q3' : v3 = _ := q3
              subst q3'
              have G151 := tmp_get s3 (by rw [hs1]; decide)
              have lv := lt_of_getElem? hf.world.vb0
              refine wpOp_act rfl (by rfl) (fun K' hK' => ?_)
              go_simp
              exact hK' _ (W.alloc (.cells #[.int .u64 E.seq, .int .u64 V.seq] 36)) ⟨_, rfl, (fun _ _ => ⟨W.heap.size, by omega, rfl, heap_alloc_new _ _⟩), Rest.grow (Grow.alloc _ _), T26L.other 4 (by decide) (by decide) (by decide)  (hf.world.grow (Grow.alloc _ _))⟩
            · intro listed a W hf hun haf
              have hs1 : a.tmps.size = 170 := hf.alike.size.trans hsz
              obtain ⟨v4, s4, q4⟩ := hf.slot 4 152 rfl (after_listed haf 4 (by kernel_rfl))
              obtain ⟨b4, ne4, q4, c4⟩ := q4
              have q4' : v4 = _ := q4
              subst q4'
              have G152 := tmp_get s4 (by rw [hs1]; decide)
              refine wpOp_call rfl (by rfl) (by go_simp) (or_u2 E.seq V.seq b4 W (by simp [World.cell?, c4]) (by simp [World.cell?, c4])) ?_
              rintro e w7 ⟨rfl, rfl⟩
              exact ⟨_, rfl, _, rfl, (fun _ _ => rfl), Rest.refl _ _, T26L.other 5 (by decide) (by decide) (by decide)  hf.world⟩
            · intro listed a W hf hun haf
              have hs1 : a.tmps.size = 170 := hf.alike.size.trans hsz
              have G3 : a.tmps[3]'(by rw [hs1]; decide) = .pointer (some ⟨w.heap.size + 1, 0, none⟩) := tmp_get ((hf.alike.same 3 (by decide)).trans F3) _
              refine wpOp_act rfl (by rfl) (fun K' hK' => ?_)
              go_simp
              exact hK' _ _ ⟨_, rfl, (fun _ _ => rfl), Rest.refl _ _, T26L.other 6 (by decide) (by decide) (by decide)  hf.world⟩
            · intro listed a W hf hun haf
              have hs1 : a.tmps.size = 170 := hf.alike.size.trans hsz
              obtain ⟨v6, s6, q6⟩ := hf.slot 6 154 rfl (after_listed haf 6 (by kernel_rfl))
              have q6' : v6 = _ := q6
              subst q6'
              have G154 := tmp_get s6 (by rw [hs1]; decide)
              obtain ⟨e0, e1, e2, e3, e4⟩ := cells5 hf.world.eb
              have le := lt_of_getElem? hf.world.eb
              refine wpOp_act rfl (by rfl) (fun K' hK' => ?_)
              go_simp
              exact hK' _ _ ⟨_, rfl, (fun _ _ => rfl), Rest.refl _ _, T26L.other 7 (by decide) (by decide) (by decide)  hf.world⟩
            · intro listed a W hf hun haf
              have hs1 : a.tmps.size = 170 := hf.alike.size.trans hsz
              have G2 : a.tmps[2]'(by rw [hs1]; decide) = .pointer (some ⟨w.heap.size, 0, none⟩) := tmp_get ((hf.alike.same 2 (by decide)).trans F2) _
              refine wpOp_act rfl (by rfl) (fun K' hK' => ?_)
              go_simp
              exact hK' _ _ ⟨_, rfl, (fun _ _ => rfl), Rest.refl _ _, T26L.other 8 (by decide) (by decide) (by decide)  hf.world⟩
            · intro listed a W hf hun haf
              have hs1 : a.tmps.size = 170 := hf.alike.size.trans hsz
              obtain ⟨v8, s8, q8⟩ := hf.slot 8 156 rfl (after_listed haf 8 (by kernel_rfl))
              have q8' : v8 = _ := q8
              subst q8'
              have G156 := tmp_get s8 (by rw [hs1]; decide)
              have hny := not_yet hf.closed (n := 6) (e := 21) (i := 9) (by kernel_rfl) hun
              have hv := hf.world.vb0
              rw [hny] at hv
              obtain ⟨e0, e1, e2, e3⟩ := cells4 hv
              have le := lt_of_getElem? hv
              simp only [cond] at e1 e2 e3
              refine wpOp_act rfl (by rfl) (fun K' hK' => ?_)
              go_simp
              exact hK' _ _ ⟨_, rfl, (fun _ _ => rfl), Rest.refl _ _, T26L.other 9 (by decide) (by decide) (by decide)  hf.world⟩
            · intro listed a W hf hun haf
              have hs1 : a.tmps.size = 170 := hf.alike.size.trans hsz
              obtain ⟨v7, s7, q7⟩ := hf.slot 7 155 rfl (after_listed haf 7 (by kernel_rfl))
              have q7' : v7 = _ := q7
              subst q7'
              have G155 := tmp_get s7 (by rw [hs1]; decide)
              obtain ⟨v9, s9, q9⟩ := hf.slot 9 157 rfl (after_listed haf 9 (by kernel_rfl))
              have q9' : v9 = _ := q9
              subst q9'
              have G157 := tmp_get s9 (by rw [hs1]; decide)
              have lv := lt_of_getElem? hf.world.vb0
              refine wpOp_act rfl (by rfl) (fun K' hK' => ?_)
              go_simp
              exact hK' _ (W.alloc (.cells #[.int .i64 E.next, .int .i64 V.next] 3)) ⟨_, rfl, (fun _ _ => ⟨W.heap.size, by omega, rfl, heap_alloc_new _ _⟩), Rest.grow (Grow.alloc _ _), T26L.other 10 (by decide) (by decide) (by decide)  (hf.world.grow (Grow.alloc _ _))⟩
            · intro listed a W hf hun haf
              have hs1 : a.tmps.size = 170 := hf.alike.size.trans hsz
              obtain ⟨v10, s10, q10⟩ := hf.slot 10 158 rfl (after_listed haf 10 (by kernel_rfl))
              obtain ⟨b10, ne10, q10, c10⟩ := q10
              have q10' : v10 = _ := q10
              subst q10'
              have G158 := tmp_get s10 (by rw [hs1]; decide)
              refine wpOp_call rfl (by rfl) (by go_simp) (or_int2 E.next V.next b10 W (by simp [World.cell?, c10]) (by simp [World.cell?, c10])) ?_
              rintro e w7 ⟨rfl, rfl⟩
              exact ⟨_, rfl, _, rfl, (fun _ _ => rfl), Rest.refl _ _, T26L.other 11 (by decide) (by decide) (by decide)  hf.world⟩
            · intro listed a W hf hun haf
              have hs1 : a.tmps.size = 170 := hf.alike.size.trans hsz
              have G3 : a.tmps[3]'(by rw [hs1]; decide) = .pointer (some ⟨w.heap.size + 1, 0, none⟩) := tmp_get ((hf.alike.same 3 (by decide)).trans F3) _
              refine wpOp_act rfl (by rfl) (fun K' hK' => ?_)
              go_simp
              exact hK' _ _ ⟨_, rfl, (fun _ _ => rfl), Rest.refl _ _, T26L.other 12 (by decide) (by decide) (by decide)  hf.world⟩
            · intro listed a W hf hun haf
              have hs1 : a.tmps.size = 170 := hf.alike.size.trans hsz
              obtain ⟨v12, s12, q12⟩ := hf.slot 12 160 rfl (after_listed haf 12 (by kernel_rfl))
              have q12' : v12 = _ := q12
              subst q12'
              have G160 := tmp_get s12 (by rw [hs1]; decide)
              obtain ⟨e0, e1, e2, e3, e4⟩ := cells5 hf.world.eb
              have le := lt_of_getElem? hf.world.eb
              refine wpOp_act rfl (by rfl) (fun K' hK' => ?_)
              go_simp
              exact hK' _ _ ⟨_, rfl, (fun _ _ => rfl), Rest.refl _ _, T26L.other 13 (by decide) (by decide) (by decide)  hf.world⟩
            · intro listed a W hf hun haf
              have hs1 : a.tmps.size = 170 := hf.alike.size.trans hsz
              have G2 : a.tmps[2]'(by rw [hs1]; decide) = .pointer (some ⟨w.heap.size, 0, none⟩) := tmp_get ((hf.alike.same 2 (by decide)).trans F2) _
              refine wpOp_act rfl (by rfl) (fun K' hK' => ?_)
              go_simp
              exact hK' _ _ ⟨_, rfl, (fun _ _ => rfl), Rest.refl _ _, T26L.other 14 (by decide) (by decide) (by decide)  hf.world⟩
            · intro listed a W hf hun haf
              have hs1 : a.tmps.size = 170 := hf.alike.size.trans hsz
              obtain ⟨v14, s14, q14⟩ := hf.slot 14 162 rfl (after_listed haf 14 (by kernel_rfl))
              have q14' : v14 = _ := q14
              subst q14'
              have G162 := tmp_get s14 (by rw [hs1]; decide)
              have hny := not_yet hf.closed (n := 6) (e := 23) (i := 15) (by kernel_rfl) hun
              have hv := hf.world.vb0
              rw [hny] at hv
              obtain ⟨e0, e1, e2, e3⟩ := cells4 hv
              have le := lt_of_getElem? hv
              simp only [cond] at e1 e2 e3
              refine wpOp_act rfl (by rfl) (fun K' hK' => ?_)
              go_simp
              exact hK' _ _ ⟨_, rfl, (fun _ _ => rfl), Rest.refl _ _, T26L.other 15 (by decide) (by decide) (by decide)  hf.world⟩
            · intro listed a W hf hun haf
              have hs1 : a.tmps.size = 170 := hf.alike.size.trans hsz
              obtain ⟨v13, s13, q13⟩ := hf.slot 13 161 rfl (after_listed haf 13 (by kernel_rfl))
              have q13' : v13 = _ := q13
              subst q13'
              have G161 := tmp_get s13 (by rw [hs1]; decide)
              obtain ⟨v15, s15, q15⟩ := hf.slot 15 163 rfl (after_listed haf 15 (by kernel_rfl))
              have q15' : v15 = _ := q15
              subst q15'
              have G163 := tmp_get s15 (by rw [hs1]; decide)
              have lv := lt_of_getElem? hf.world.vb0
              refine wpOp_act rfl (by rfl) (fun K' hK' => ?_)
              go_simp
              exact hK' _ (W.alloc (.cells #[.int .i64 E.wal, .int .i64 V.wal] 3)) ⟨_, rfl, (fun _ _ => ⟨W.heap.size, by omega, rfl, heap_alloc_new _ _⟩), Rest.grow (Grow.alloc _ _), T26L.other 16 (by decide) (by decide) (by decide)  (hf.world.grow (Grow.alloc _ _))⟩
            · intro listed a W hf hun haf
              have hs1 : a.tmps.size = 170 := hf.alike.size.trans hsz
              obtain ⟨v16, s16, q16⟩ := hf.slot 16 164 rfl (after_listed haf 16 (by kernel_rfl))
              obtain ⟨b16, ne16, q16, c16⟩ := q16
              have q16' : v16 = _ := q16
              subst q16'
              have G164 := tmp_get s16 (by rw [hs1]; decide)
              refine wpOp_call rfl (by rfl) (by go_simp) (or_int2 E.wal V.wal b16 W (by simp [World.cell?, c16]) (by simp [World.cell?, c16])) ?_
              rintro e w7 ⟨rfl, rfl⟩
              exact ⟨_, rfl, _, rfl, (fun _ _ => rfl), Rest.refl _ _, T26L.other 17 (by decide) (by decide) (by decide)  hf.world⟩
            · intro listed a W hf hun haf
              have hs1 : a.tmps.size = 170 := hf.alike.size.trans hsz
              have G2 : a.tmps[2]'(by rw [hs1]; decide) = .pointer (some ⟨w.heap.size, 0, none⟩) := tmp_get ((hf.alike.same 2 (by decide)).trans F2) _
              refine wpOp_act rfl (by rfl) (fun K' hK' => ?_)
              go_simp
              exact hK' _ _ ⟨_, rfl, (fun _ _ => rfl), Rest.refl _ _, T26L.other 18 (by decide) (by decide) (by decide)  hf.world⟩
            · intro listed a W hf hun haf
              have hs1 : a.tmps.size = 170 := hf.alike.size.trans hsz
              obtain ⟨v18, s18, q18⟩ := hf.slot 18 166 rfl (after_listed haf 18 (by kernel_rfl))
              have q18' : v18 = _ := q18
              subst q18'
              have G166 := tmp_get s18 (by rw [hs1]; decide)
              obtain ⟨v5, s5, q5⟩ := hf.slot 5 153 rfl (after_listed haf 5 (by kernel_rfl))
              have q5' : v5 = _ := q5
              subst q5'
              have G153 := tmp_get s5 (by rw [hs1]; decide)
              have hv := hf.world.vb0
              obtain ⟨e0, e1, e2, e3⟩ := cells4 hv
              have le := lt_of_getElem? hv
              have fy : ∀ i, W.frozen? ⟨w.heap.size, i, none⟩ = false := fun i => by simp [World.frozen?, hv]
              refine wpOp_act rfl (by rfl) (fun K' hK' => ?_)
              go_simp
              exact hK' _ _ ⟨undef, rfl, (fun _ h => by cases h), Rest.set _ _ _ _, hf.world.st1 (by rw [hf.size]; decide)⟩
            · intro listed a W hf hun haf
              have hs1 : a.tmps.size = 170 := hf.alike.size.trans hsz
              have G2 : a.tmps[2]'(by rw [hs1]; decide) = .pointer (some ⟨w.heap.size, 0, none⟩) := tmp_get ((hf.alike.same 2 (by decide)).trans F2) _
              refine wpOp_act rfl (by rfl) (fun K' hK' => ?_)
              go_simp
              exact hK' _ _ ⟨_, rfl, (fun _ _ => rfl), Rest.refl _ _, T26L.other 20 (by decide) (by decide) (by decide)  hf.world⟩
            · intro listed a W hf hun haf
              have hs1 : a.tmps.size = 170 := hf.alike.size.trans hsz
              obtain ⟨v20, s20, q20⟩ := hf.slot 20 167 rfl (after_listed haf 20 (by kernel_rfl))
              have q20' : v20 = _ := q20
              subst q20'
              have G167 := tmp_get s20 (by rw [hs1]; decide)
              obtain ⟨v11, s11, q11⟩ := hf.slot 11 159 rfl (after_listed haf 11 (by kernel_rfl))
              have q11' : v11 = _ := q11
              subst q11'
              have G159 := tmp_get s11 (by rw [hs1]; decide)
              have hv := hf.world.vb0
              obtain ⟨e0, e1, e2, e3⟩ := cells4 hv
              have le := lt_of_getElem? hv
              have fy : ∀ i, W.frozen? ⟨w.heap.size, i, none⟩ = false := fun i => by simp [World.frozen?, hv]
              refine wpOp_act rfl (by rfl) (fun K' hK' => ?_)
              go_simp
              exact hK' _ _ ⟨undef, rfl, (fun _ h => by cases h), Rest.set _ _ _ _, hf.world.st2 (by rw [hf.size]; decide)⟩
            · intro listed a W hf hun haf
              have hs1 : a.tmps.size = 170 := hf.alike.size.trans hsz
              have G2 : a.tmps[2]'(by rw [hs1]; decide) = .pointer (some ⟨w.heap.size, 0, none⟩) := tmp_get ((hf.alike.same 2 (by decide)).trans F2) _
              refine wpOp_act rfl (by rfl) (fun K' hK' => ?_)
              go_simp
              exact hK' _ _ ⟨_, rfl, (fun _ _ => rfl), Rest.refl _ _, T26L.other 22 (by decide) (by decide) (by decide)  hf.world⟩
            · intro listed a W hf hun haf
              have hs1 : a.tmps.size = 170 := hf.alike.size.trans hsz
              obtain ⟨v22, s22, q22⟩ := hf.slot 22 168 rfl (after_listed haf 22 (by kernel_rfl))
              have q22' : v22 = _ := q22
              subst q22'
              have G168 := tmp_get s22 (by rw [hs1]; decide)
              obtain ⟨v17, s17, q17⟩ := hf.slot 17 165 rfl (after_listed haf 17 (by kernel_rfl))
              have q17' : v17 = _ := q17
              subst q17'
              have G165 := tmp_get s17 (by rw [hs1]; decide)
              have hv := hf.world.vb0
              obtain ⟨e0, e1, e2, e3⟩ := cells4 hv
              have le := lt_of_getElem? hv
              have fy : ∀ i, W.frozen? ⟨w.heap.size, i, none⟩ = false := fun i => by simp [World.frozen?, hv]
              refine wpOp_act rfl (by rfl) (fun K' hK' => ?_)
              go_simp
              exact hK' _ _ ⟨undef, rfl, (fun _ h => by cases h), Rest.set _ _ _ _, hf.world.st3 (by rw [hf.size]; decide)⟩
          case rest =>
          have hrb := hcut.rb
          have hvb := hcut.vb
          simp only [cond] at hvb
          clear v0 v1 v2 v3
          obtain ⟨v0, v1, v2, v3⟩ := cells4 hvb
          obtain ⟨z0, z1, z2, z3⟩ := cells4 hrb
          have lv7 := lt_of_getElem? hvb
          have lr7 := lt_of_getElem? hrb
          have fr7 : ∀ i, wc.frozen? ⟨w.heap.size + 1 + 1, i, none⟩ = false := fun i => by simp [World.frozen?, hrb]
          have Hcut := Lib.hid hcut
          have Hrb := Lib.hid hrb
          clear hcut hrb hvb
          go_wp2
          refine bodyPost_ret (results_apply (c := 0) rfl rfl (set4 Hrb.out _ _ _ _)) rfl ?_
          rw [Hres.out]
          exact ⟨_, rfl, owns_mono (set4_own Hcut.out.own Hrb.out _ _ _ _) (by omega), set4_below Hcut.out.below (by omega) _ _ _ _⟩
end Go.Proofs.YtejpcoghkgjanaaGreatDoor.Mn
