/- Merged out of EP, EQ: helpers. -/
import Derived.Test.YtfchjoejdijjeaaCO
set_option linter.unusedSimpArgs false
set_option linter.unusedVariables false
/- The reference's master: node, born, Place. -/
namespace Go.Proofs.Ytfchjoejdijjeaa
open Go.RowKit Go.Gl Go.Wal Go.Ch Go.Shelf
section
variable {N : Nat → Prop} {w : World} {cv sv : Value} {c : Cfg}
theorem rnode_true {n : Nat} (h : n < 16) (w : World) : Calls Try.prog 37 #[.int .i64 (n : Int)] w fun e w' => e = .returned (.bool true) ∧ w' = w := by
  have h0 : decide ((0 : Int) ≤ (n : Int)) = true := by simp
  have h1 : decide ((n : Int) < 16) = true := by simp; omega
  go_enter Try.func37, Try.ntmps37
  go_wp2
  go_ret
  exact ⟨rfl, rfl⟩
theorem rborn_true {n : Nat} (h : n ≤ 1000000) (w : World) : Calls Try.prog 38 #[.int .i64 (n : Int)] w fun e w' => e = .returned (.bool true) ∧ w' = w := by
  have h0 : decide ((0 : Int) ≤ (n : Int)) = true := by simp
  have h1 : decide ((n : Int) ≤ 1099511627776) = true := by simp; omega
  go_enter Try.func38, Try.ntmps38
  go_wp2
  go_ret
  exact ⟨rfl, rfl⟩
theorem placeF_drop {n : Nat} {l : List Mem} {i : Nat} {m : Mem} (h : l[i]? = some m) : placeF n (l.drop i) i = if m.node = n then some i else placeF n (l.drop (i + 1)) (i + 1) := by
  obtain ⟨h1, h2⟩ := List.getElem?_eq_some_iff.1 h
  rw [List.drop_eq_getElem_cons h1, h2]
  rfl

set_option maxRecDepth 100000 in
set_option maxHeartbeats 4000000 in
theorem rplace_any (h : CfgR N w cv sv c) (hl : c.chain.length ≤ 1000) (n : Nat) :
    Calls Try.prog 40 #[cfgV c.epoch cv sv, .int .i64 (n : Int)] w fun e w' => e = .returned (.int .i64 (plI (place c.chain n))) ∧ Grow w w' := by
  obtain ⟨a, cc, rfl⟩ := h.chain.slice
  obtain ⟨sa, sc, rfl⟩ := h.stores.slice
  have hg1 : Grow w (w.alloc (.cells #[.int .i64 (c.epoch : Int), .slice a c.chain.length cc, .slice sa c.stores.length sc] 59)) := Grow.alloc _ _
  have hr1 := heap_alloc_new w (.cells #[.int .i64 (c.epoch : Int), .slice a c.chain.length cc, .slice sa c.stores.length sc] 59)
  have H := Lib.hid (h.grow hg1)
  obtain ⟨R, hR⟩ : ∃ R, plI (place c.chain n) = R := ⟨_, rfl⟩
  rw [hR]
  have HR := Lib.hid hR
  clear h hR
  go_enter Try.func40, Try.ntmps40
  go_upto_region 1 with fail
  generalize w.alloc (.cells #[.int .i64 (c.epoch : Int), .slice a c.chain.length cc, .slice sa c.stores.length sc] 59 ) = w1 at *
  have q1 : w1.cell? ⟨w.heap.size, 1, none⟩ = some (.slice a c.chain.length cc) := by simp [World.cell?, hr1]
  have lz : w.heap.size < w1.heap.size := lt_of_getElem? hr1
  have Hg1 := Lib.hid hg1
  clear hr1 hg1
  go_wp2_with fail
  go_loopw [5] (fun iv wr => ∃ i : Nat, iv = .int .i64 i ∧ i ≤ c.chain.length ∧ plI (placeF n (c.chain.drop i) i) = R ∧ wr = w1) (fun iv _ => c.chain.length - (intOf iv).toNat)
  case atStart => exact ⟨0, rfl, Nat.zero_le _, HR.out, rfl⟩
  case round =>
    obtain ⟨i, rfl, hi, hp, hww⟩ := hrel
    have hww' := hww.symm
    subst hww'
    clear hww
    have Hp := Lib.hid hp
    clear hp
    by_cases hlt : i < c.chain.length
    · obtain ⟨m, hm⟩ : ∃ m, c.chain[i]? = some m := ⟨c.chain[i], by simp [hlt]⟩
      obtain ⟨b2, o2, c2, e2', hN, hb2', hr2⟩ := H.out.chain.addr hm
      cases e2'
      obtain ⟨m0, m1, m2⟩ := rd_mem hr2 hm
      have hi1 : (i : Int) < (c.chain.length : Int) := by omega
      have hpd := Hp.out
      rw [placeF_drop hm] at hpd
      by_cases hmn : m.node = n
      · rw [if_pos hmn] at hpd
        have hpd' : R = (i : Int) := hpd.symm
        subst hpd'
        have em : ((m.node : Int) == (n : Int)) = true := by simp [hmn]
        clear hpd hmn hm hr2 Hp HR
        go_wp2
        go_ret
        exact ⟨rfl, Hg1.out⟩
      · rw [if_neg hmn] at hpd
        have em : ((m.node : Int) == (n : Int)) = false := by simp; omega
        have Hpd := Lib.hid hpd
        clear hpd hmn hm hr2 Hp HR
        go_wp2
        go_roundw
        case rel => exact ⟨i + 1, by simp, hlt, Hpd.out, trivial⟩
        case measure => simp [intOf]; omega
    · obtain rfl : i = c.chain.length := by omega
      have hpd := Hp.out
      rw [List.drop_length] at hpd
      have hpd' : R = -1 := hpd.symm
      subst hpd'
      clear hpd Hp HR hlt
      go_wp2
      go_ret
      exact ⟨rfl, Hg1.out⟩
end
end Go.Proofs.Ytfchjoejdijjeaa

/- The reference's master: Check of a right configuration. -/
namespace Go.Proofs.Ytfchjoejdijjeaa
open Go.RowKit Go.Gl Go.Wal Go.Ch Go.Shelf
section
variable {N : Nat → Prop} {w : World} {cv sv : Value} {c : Cfg}
theorem place_uniq {n : Nat} : ∀ (l : List Mem) (i k : Nat), (l.map (·.node)).Nodup → (l[i]?).map (·.node) = some n → placeF n l k = some (k + i)
  | [], i, k, _, h => by simp at h
  | m :: l, 0, k, _, h => by
    have : m.node = n := by simpa using h
    unfold placeF; rw [if_pos this]; rfl
  | m :: l, i + 1, k, hn, h => by
    have hn' := List.nodup_cons.1 hn
    have hm : n ∈ l.map (·.node) := by
      rw [List.getElem?_cons_succ] at h
      cases hq : l[i]? with
      | none => rw [hq] at h; cases h
      | some x => rw [hq] at h; cases h; exact List.mem_map.2 ⟨x, List.mem_of_getElem? hq, rfl⟩
    have : m.node ≠ n := fun e => hn'.1 (show m.node ∈ l.map (·.node) by rw [e]; exact hm)
    unfold placeF
    rw [if_neg this, place_uniq l i (k + 1) hn'.2 (by simpa using h)]
    congr 1; omega

set_option maxRecDepth 100000 in
set_option maxHeartbeats 4000000 in
theorem rcheck_any (h : CfgR N w cv sv c) (hc : CfgOk c) :
    Calls Try.prog 36 #[cfgV c.epoch cv sv] w fun e w' => e = .returned (.int .i64 0) ∧ Grow w w' := by
  obtain ⟨a, cc, rfl⟩ := h.chain.slice
  obtain ⟨sa, sc, rfl⟩ := h.stores.slice
  have hg1 : Grow w (w.alloc (.cells #[.int .i64 (c.epoch : Int), .slice a c.chain.length cc, .slice sa c.stores.length sc] 59)) := Grow.alloc _ _
  have hr1 := heap_alloc_new w (.cells #[.int .i64 (c.epoch : Int), .slice a c.chain.length cc, .slice sa c.stores.length sc] 59)
  have H := Lib.hid h
  have HC := Lib.hid hc
  have hlen := hc.len
  have e1 : decide ((c.epoch : Int) < 0) = false := by simp
  have e2 : decide ((1099511627776 : Int) < (c.epoch : Int)) = false := by have := hc.ep; simp; omega
  have e3 : decide ((5 : Int) < (c.chain.length : Int)) = false := by simp; omega
  have Hg1 := Lib.hid hg1
  have Hr1 := Lib.hid hr1
  have hwh : (decide (c.chain.length = 0) || anyWhole c.chain) = true := by
    rcases hc.wh with h | h
    · rw [h]; rfl
    · rw [h, Bool.or_true]
  have Hwh := Lib.hid hwh
  obtain ⟨z, hz⟩ : ∃ z, ((c.chain.length : Int) == 0) = z := ⟨_, rfl⟩
  have hz2 : decide (c.chain.length = 0) = z := by rw [← hz]; by_cases h0 : c.chain.length = 0 <;> simp [h0]
  have Hz2 := Lib.hid hz2
  clear h hc hg1 hr1 hwh hz2
  go_enter Try.func36, Try.ntmps36
  go_upto_region 1 with fail
  have hw0 := Hr1.out
  have hz0 : w.heap.size < (w.alloc (.cells #[.int .i64 (c.epoch : Int), .slice a c.chain.length cc, .slice sa c.stores.length sc] 59)).heap.size := lt_of_getElem? hw0
  generalize w.alloc (.cells #[.int .i64 (c.epoch : Int), .slice a c.chain.length cc, .slice sa c.stores.length sc] 59) = w1 at *
  have q0 : w1.cell? ⟨w.heap.size, 0, none⟩ = some (.int .i64 (c.epoch : Int)) := by simp [World.cell?, hw0]
  have q1 : w1.cell? ⟨w.heap.size, 1, none⟩ = some (.slice a c.chain.length cc) := by simp [World.cell?, hw0]
  clear hw0
  go_wp2_with fail
  go_loopw [3, 4] (fun bv iv wr => ∃ i : Nat, iv = .int .i64 i ∧ i ≤ c.chain.length ∧ bv = .bool (decide (c.chain.length = 0) || anyWhole (c.chain.take i)) ∧ Grow w1 wr) (fun _ iv _ => c.chain.length - (intOf iv).toNat)
  case atStart => exact ⟨0, rfl, Nat.zero_le _, by rw [Hz2.out]; simp [anyWhole], Grow.refl _⟩
  case round =>
    obtain ⟨i, rfl, hi, rfl, hg⟩ := hrel
    have hbr := hg.heap Hr1.out
    have hzr : w.heap.size < wr.heap.size := lt_of_getElem? hbr
    have q0r : wr.cell? ⟨w.heap.size, 0, none⟩ = some (.int .i64 (c.epoch : Int)) := by simp [World.cell?, hbr]
    have q1r : wr.cell? ⟨w.heap.size, 1, none⟩ = some (.slice a c.chain.length cc) := by simp [World.cell?, hbr]
    have q2r : wr.cell? ⟨w.heap.size, 2, none⟩ = some (.slice sa c.stores.length sc) := by simp [World.cell?, hbr]
    obtain ⟨bv, hbv⟩ : ∃ q, (decide (c.chain.length = 0) || anyWhole (c.chain.take i)) = q := ⟨_, rfl⟩
    rw [hbv]
    have Hbv := Lib.hid hbv
    clear hbv
    by_cases hlt : i < c.chain.length
    · obtain ⟨m, hm⟩ : ∃ m, c.chain[i]? = some m := ⟨c.chain[i], by simp [hlt]⟩
      have hmm := List.mem_of_getElem? hm
      have hch := (H.out.chain.grow (Hg1.out.trans hg))
      obtain ⟨b2, o2, c2, e2', hN, hb2', hr2⟩ := hch.addr hm
      cases e2'
      obtain ⟨m0, m1, m2⟩ := rd_mem hr2 hm
      have hi1 : (i : Int) < (c.chain.length : Int) := by omega
      have hblk : Grow wr (wr.alloc (.cells #[.int .i64 (m.node : Int), .int .i64 (m.birth : Int), .bool m.whole] 71)) := Grow.alloc _ _
      have hnb := heap_alloc_new wr (.cells #[.int .i64 (m.node : Int), .int .i64 (m.birth : Int), .bool m.whole] 71)
      have Hnd := Lib.hid (rnode_true (HC.out.node m hmm))
      have Hbd := Lib.hid (rborn_true (HC.out.birth m hmm))
      have hpl := rplace_any (H.out.grow ((Hg1.out.trans hg).trans hblk)) (by omega) m.node
      rw [show plI (place c.chain m.node) = (i : Int) by
        unfold place; rw [place_uniq c.chain i 0 HC.out.uniq (by rw [hm]; rfl), Nat.zero_add]; rfl] at hpl
      have Hpl := Lib.hid hpl
      have Hg := Lib.hid (hg.trans hblk)
      have Hnb := Lib.hid hnb
      have hnew : (decide (c.chain.length = 0) || anyWhole (c.chain.take (i + 1))) = (bv || m.whole) := by
        obtain ⟨h1, h2⟩ := List.getElem?_eq_some_iff.1 hm
        rw [← Hbv.out, List.take_succ_eq_append_getElem h1, h2]
        unfold anyWhole
        simp [Bool.or_assoc]
      have Hnew := Lib.hid hnew
      have eii : ((i : Int) != (i : Int)) = false := by simp
      clear hm hmm hch hr2 hblk hnb hpl hg hbr hnew
      go_wp2_with fail
      (with_reducible refine (Hnd.out _).mono ?_)
      rintro e w5 ⟨rfl, hw1⟩
      have hw2 := hw1.symm
      subst hw2
      clear hw1 Hnd
      go_wp2_with fail
      (with_reducible refine (Hbd.out _).mono ?_)
      rintro e w5 ⟨rfl, hw1⟩
      have hw2 := hw1.symm
      subst hw2
      clear hw1 Hbd
      go_wp2_with fail
      (with_reducible refine Hpl.out.mono ?_)
      rintro e w5 ⟨rfl, hg5⟩
      have Hg5 := Lib.hid (Hg.out.trans hg5)
      have hb5 := hg5.heap Hnb.out
      have k5 : w5.cell? ⟨wr.heap.size, 2, none⟩ = some (.bool m.whole) := by simp [World.cell?, hb5]
      have l5 : wr.heap.size < w5.heap.size := lt_of_getElem? hb5
      clear Hpl hg5 Hg hb5 Hnb
      cases bv
      all_goals
        go_wp2
        go_roundw
        case rel => exact ⟨i + 1, by simp, hlt, by rw [Hnew.out]; simp, Hg5.out⟩
        case measure => simp [intOf]; omega
    · obtain rfl : i = c.chain.length := by omega
      have Hg := Lib.hid hg
      have hls : c.stores.length ≤ 16 := HC.out.stl
      obtain rfl : bv = true := by have := Hbv.out; rw [List.take_length, Hwh.out] at this; exact this.symm
      clear hg hbr hlt q0r
      go_wp2_with fail
      clear q1r q2r hzr
      obtain ⟨wv, hwv⟩ : ∃ W, W = wr := ⟨_, rfl⟩
      subst hwv
      go_loopw [6] (fun iv wx => ∃ i : Nat, iv = .int .i64 i ∧ i ≤ c.stores.length ∧ Grow wv wx) (fun iv _ => c.stores.length - (intOf iv).toNat)
      case atStart => exact ⟨0, rfl, Nat.zero_le _, Grow.refl _⟩
      case round =>
        obtain ⟨i, rfl, hi, hgy⟩ := hrel
        have Hgy := Lib.hid hgy
        have hby := (Hg.out.trans hgy).heap Hr1.out
        have hzy : w.heap.size < wr.heap.size := lt_of_getElem? hby
        have q2y : wr.cell? ⟨w.heap.size, 2, none⟩ = some (.slice sa c.stores.length sc) := by simp [World.cell?, hby]
        by_cases hlt : i < c.stores.length
        · obtain ⟨n, hn⟩ : ∃ n, c.stores[i]? = some n := ⟨c.stores[i], by simp [hlt]⟩
          have hst := (H.out.stores.grow ((Hg1.out.trans Hg.out).trans hgy))
          obtain ⟨b3, o3, c3, e3', hN, hb3', hr3⟩ := hst.addr hn
          cases e3'
          have Hnd := Lib.hid (rnode_true (HC.out.st16 n (List.mem_of_getElem? hn)))
          have hi1 : (i : Int) < (c.stores.length : Int) := by omega
          have HS2 : Hid (∀ W, Grow wr W → w.heap.size < W.heap.size ∧ W.cell? ⟨w.heap.size, 2, none⟩ = some (.slice (some ⟨b3, o3, none⟩) c.stores.length sc) ∧ ∀ k p : Nat, c.stores[k]? = some p → W.cell? ⟨b3, o3 + k, none⟩ = some (.int .i64 (p : Int))) := Lib.hid fun W hW => by
            have h1 := hW.heap hby
            refine ⟨lt_of_getElem? h1, by simp [World.cell?, h1], fun k p hp => ?_⟩
            rw [hW.cell hb3']
            have := hr3 k p hp 0 _ rfl
            simpa using this
          clear hgy hby hst hr3
          rcases Nat.eq_zero_or_pos i with rfl | hip
          · have HS : Hid (∀ W, Grow wr W → w.heap.size < W.heap.size ∧ W.cell? ⟨w.heap.size, 2, none⟩ = some (.slice (some ⟨b3, o3, none⟩) c.stores.length sc) ∧ W.cell? ⟨b3, o3, none⟩ = some (.int .i64 (n : Int))) := Lib.hid fun W hW => by
              obtain ⟨h1, h2, h3⟩ := HS2.out W hW
              exact ⟨h1, h2, by simpa using h3 0 n hn⟩
            clear hn HS2
            go_wp2_with fail
            refine wp_region_row (fun W => w.heap.size < W.heap.size ∧ W.cell? ⟨w.heap.size, 2, none⟩ = some (.slice (some ⟨b3, o3, none⟩) c.stores.length sc) ∧ W.cell? ⟨b3, o3, none⟩ = some (.int .i64 (n : Int))) [5] (by kernel_rfl) (fun c a d v w h => by cases d <;> exact h) (HS.out _ (Grow.drew wr)) ?_
            have Hgd := Lib.hid (Hgy.out.trans (Grow.drew wr))
            have Hrd := Lib.hid (HS.out _ (Grow.drew wr))
            clear HS
            generalize wr.drew = wd at *
            simp only [inRow]
            repeat ((first | (apply wpPi_quiet; rfl; rintro W ⟨hl0, hW0, hW1⟩; go_simp; with_reducible rfl) | (apply wpPi_off; rfl)); simp only [putA, List.set])
            refine wpPi_call (by rfl) (by go_simp) (Hnd.out _) ?_
            rintro e wb ⟨rfl, hw1⟩
            have hw2 := hw1.symm
            subst hw2
            clear hw1
            refine ⟨_, rfl, Hrd.out, ?_⟩
            try first | simp only [putA, List.set] | simp only [putN]
            repeat ((first | (apply wpPi_quiet; rfl; rintro W ⟨hl0, hW0, hW1⟩; go_simp; with_reducible rfl) | (apply wpPi_off; rfl)); simp only [putA, List.set])
            refine wpPi_nil ?_
            go_wp2
            go_roundw
            case rel => exact ⟨0 + 1, by simp, hlt, Hgd.out⟩
            case measure => simp [intOf]; omega
          · obtain ⟨k, rfl⟩ : ∃ k, i = k + 1 := ⟨i - 1, by omega⟩
            obtain ⟨p, hp⟩ : ∃ p, c.stores[k]? = some p := ⟨c.stores[k], by simp [show k < c.stores.length by omega]⟩
            have hpn : p < n := by
              have h1 := List.pairwise_iff_getElem.1 HC.out.st k (k + 1) (by omega) hlt (by omega)
              obtain ⟨a1, a2⟩ := List.getElem?_eq_some_iff.1 hn
              obtain ⟨a3, a4⟩ := List.getElem?_eq_some_iff.1 hp
              rw [a2, a4] at h1
              exact h1
            have ec : decide (n ≤ p) = false := decide_eq_false (by omega)
            obtain ⟨q, hq⟩ : ∃ q, q = k + 1 := ⟨_, rfl⟩
            have ez : decide ((0 : Int) < (q : Int)) = true := decide_eq_true (by omega)
            have ez2 : decide (0 < q) = true := decide_eq_true (by omega)
            have hw1 : IntKind.i64.wrap ((q : Int) - 1) = (k : Int) := by rw [hq]; exact (by simpa using IntWalk.i64_in (k : Int) (by omega))
            have hq1 : (q : Int) - 1 = (k : Int) := by omega
            have hwk : IntKind.i64.wrap (k : Int) = (k : Int) := by simpa using IntWalk.i64_in (k : Int) (by omega)
            have hkt : ((k : Int)).toNat = k := by simp
            have hkl : (k : Int) < (c.stores.length : Int) := by omega
            have HS : Hid (∀ W, Grow wr W → w.heap.size < W.heap.size ∧ W.cell? ⟨w.heap.size, 2, none⟩ = some (.slice (some ⟨b3, o3, none⟩) c.stores.length sc) ∧ W.cell? ⟨b3, o3 + q, none⟩ = some (.int .i64 (n : Int)) ∧ W.cell? ⟨b3, o3 + k, none⟩ = some (.int .i64 (p : Int))) := Lib.hid fun W hW => by
              obtain ⟨h1, h2, h3⟩ := HS2.out W hW
              exact ⟨h1, h2, by rw [hq]; exact h3 _ n hn, h3 k p hp⟩
            rw [← hq] at hi1 hlt ⊢
            clear hn hp hpn hq hi hip HS2
            go_wp2_with fail
            refine wp_region_row (fun W => w.heap.size < W.heap.size ∧ W.cell? ⟨w.heap.size, 2, none⟩ = some (.slice (some ⟨b3, o3, none⟩) c.stores.length sc) ∧ W.cell? ⟨b3, o3 + q, none⟩ = some (.int .i64 (n : Int)) ∧ W.cell? ⟨b3, o3 + k, none⟩ = some (.int .i64 (p : Int))) [5] (by kernel_rfl) (fun c a d v w h => by cases d <;> exact h) (HS.out _ (Grow.drew wr)) ?_
            have Hgd := Lib.hid (Hgy.out.trans (Grow.drew wr))
            have Hrd := Lib.hid (HS.out _ (Grow.drew wr))
            clear HS
            generalize wr.drew = wd at *
            simp only [inRow]
            repeat ((first | (apply wpPi_quiet; rfl; rintro W ⟨hl0, hW0, hW1, hW2⟩; go_simp; with_reducible rfl) | (apply wpPi_off; rfl)); simp only [putA, List.set])
            refine wpPi_call (by rfl) (by go_simp) (Hnd.out _) ?_
            rintro e wb ⟨rfl, hw1⟩
            have hw2 := hw1.symm
            subst hw2
            clear hw1
            refine ⟨_, rfl, Hrd.out, ?_⟩
            try first | simp only [putA, List.set] | simp only [putN]
            repeat ((first | (apply wpPi_quiet; rfl; rintro W ⟨hl0, hW0, hW1, hW2⟩; go_simp; with_reducible rfl) | (apply wpPi_off; rfl)); simp only [putA, List.set])
            refine wpPi_nil ?_
            go_wp2
            go_roundw
            case rel => exact ⟨q + 1, by simp, hlt, Hgd.out⟩
            case measure => simp [intOf]; omega
        · obtain rfl : i = c.stores.length := by omega
          have Hgf := Lib.hid ((Hg1.out.trans Hg.out).trans Hgy.out)
          clear hlt hgy hby
          go_wp2
          go_ret
          exact ⟨rfl, Hgf.out⟩
end
end Go.Proofs.Ytfchjoejdijjeaa
