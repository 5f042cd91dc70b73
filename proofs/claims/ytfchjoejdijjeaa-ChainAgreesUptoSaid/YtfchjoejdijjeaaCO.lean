/- Merged out of EJ, EK: helpers. -/
import Derived.Test.YtfchjoejdijjeaaCE
import Derived.Deep.Upon
set_option linter.unusedSimpArgs false
set_option linter.unusedVariables false
/- master.Check of a right configuration. -/
namespace Go.Ch
/-- A right configuration. -/
structure CfgOk (c : Cfg) : Prop where
  ep : c.epoch ≤ 1099511627776
  len : c.chain.length ≤ 5
  wh : c.chain = [] ∨ anyWhole c.chain = true
  node : ∀ m ∈ c.chain, m.node < 16
  birth : ∀ m ∈ c.chain, m.birth ≤ 1000000
  uniq : (c.chain.map (·.node)).Nodup
  st : c.stores.Pairwise (· < ·)
  st16 : ∀ n ∈ c.stores, n < 16
  stl : c.stores.length ≤ 16
end Go.Ch
namespace Go.Proofs.Ytfchjoejdijjeaa
open Go.RowKit Go.Gl Go.Wal Go.Ch Go.Shelf

theorem uniq_take {l : List Mem} (h : (l.map (·.node)).Nodup) {i : Nat} {m : Mem} (hm : l[i]? = some m) : (l.take i).any (eqN m.node) = false := by
  rw [List.any_eq_false]
  intro x hx
  obtain ⟨j, hj, hjx⟩ := List.mem_iff_getElem.1 hx
  simp only [List.length_take] at hj
  have hjl : j < l.length := by omega
  rw [List.getElem_take] at hjx
  unfold eqN
  simp only [decide_eq_true_eq]
  intro he
  obtain ⟨hi, him⟩ := List.getElem?_eq_some_iff.1 hm
  have h1 : (l.map (·.node))[j]? = some m.node := by simp [hjl, hjx, he]
  have h2 : (l.map (·.node))[i]? = some m.node := by simp [hi, him]
  have := nodup_idx h h1 h2
  omega

section
variable {N : Nat → Prop} {w : World} {cv sv : Value} {c : Cfg}
theorem mnode_true {n : Nat} (h : n < 16) (w : World) : Calls Try.prog 63 #[.int .i64 (n : Int)] w fun e w' => e = .returned (.bool true) ∧ w' = w := by
  have h0 : decide ((0 : Int) ≤ (n : Int)) = true := by simp
  have h1 : decide ((n : Int) < 16) = true := by simp; omega
  go_enter Try.func63, Try.ntmps63
  go_wp2
  go_ret
  exact ⟨rfl, rfl⟩
theorem mborn_true {n : Nat} (h : n ≤ 1000000) (w : World) : Calls Try.prog 64 #[.int .i64 (n : Int)] w fun e w' => e = .returned (.bool true) ∧ w' = w := by
  have h0 : decide ((0 : Int) ≤ (n : Int)) = true := by simp
  have h1 : decide ((n : Int) ≤ 1099511627776) = true := by simp; omega
  go_enter Try.func64, Try.ntmps64
  go_wp2
  go_ret
  exact ⟨rfl, rfl⟩

theorem rowR_front {α : Type} {enc : α → List Value} {k : Nat} {a : Option Addr} {cc : Nat} {xs : List α} (h : RowR N w (.slice a xs.length cc) enc k xs) {i : Nat} (hi : i ≤ xs.length) : RowR N w (.slice a i cc) enc k (xs.take i) := by
  obtain ⟨a', c', e, h1, h2, h3, h4⟩ := h
  cases e
  have hl : (xs.take i).length = i := by simp; omega
  refine ⟨a, cc, by rw [hl], by omega, h2, h3, ?_⟩
  rcases h4 with h4 | ⟨b, o, ha, hN, hb, hr⟩
  · left; rw [h4]; simp
  · refine .inr ⟨b, o, ha, hN, hb, fun q x hx c u hu => hr q x ?_ c u hu⟩
    rw [List.getElem?_take] at hx
    split at hx
    · exact hx
    · cases hx

set_option maxRecDepth 100000 in
set_option maxHeartbeats 4000000 in
theorem mcheck_any (h : CfgR N w cv sv c) (hc : CfgOk c) :
    Calls Try.prog 46 #[cfgV c.epoch cv sv] w fun e w' => e = .returned (.int .i64 0) ∧ Grow w w' := by
  obtain ⟨a, cc, rfl⟩ := h.chain.slice
  obtain ⟨sa, sc, rfl⟩ := h.stores.slice
  have hg1 : Grow w (w.alloc (.cells #[.int .i64 (c.epoch : Int), .slice a c.chain.length cc, .slice sa c.stores.length sc] 59)) := Grow.alloc _ _
  have hr1 := heap_alloc_new w (.cells #[.int .i64 (c.epoch : Int), .slice a c.chain.length cc, .slice sa c.stores.length sc] 59)
  have H := Lib.hid h
  have HC := Lib.hid hc
  have hlen := hc.len
  have hcc : c.chain.length ≤ cc := by obtain ⟨a', c', e', hl, _⟩ := h.chain; cases e'; exact hl
  have e1 : decide ((c.epoch : Int) < 0) = false := by simp
  have e2 : decide ((1099511627776 : Int) < (c.epoch : Int)) = false := by have := hc.ep; simp; omega
  have e3 : decide ((5 : Int) < (c.chain.length : Int)) = false := by simp; omega
  have Hw := Lib.hid (whole_any (h.grow hg1).chain (by omega))
  have Hg1 := Lib.hid hg1
  have Hr1 := Lib.hid hr1
  obtain ⟨aw, haw⟩ : ∃ q, anyWhole c.chain = q := ⟨_, rfl⟩
  rw [haw] at Hw
  have hwh : c.chain.length = 0 ∨ aw = true := by
    rcases hc.wh with h | h
    · left; rw [h]; rfl
    · right; rw [← haw]; exact h
  clear h hc hg1 hr1 haw
  go_enter Try.func46, Try.ntmps46
  go_upto_region 1 with fail
  have hw0 := Hr1.out
  have hz0 : w.heap.size < (w.alloc (.cells #[.int .i64 (c.epoch : Int), .slice a c.chain.length cc, .slice sa c.stores.length sc] 59)).heap.size := lt_of_getElem? hw0
  generalize w.alloc (.cells #[.int .i64 (c.epoch : Int), .slice a c.chain.length cc, .slice sa c.stores.length sc] 59) = w1 at *
  have q0 : w1.cell? ⟨w.heap.size, 0, none⟩ = some (.int .i64 (c.epoch : Int)) := by simp [World.cell?, hw0]
  have q1 : w1.cell? ⟨w.heap.size, 1, none⟩ = some (.slice a c.chain.length cc) := by simp [World.cell?, hw0]
  clear hw0
  go_cut [3] from 8 to 33 (fun v wx => v = .bool false ∧ Grow w1 wx)
  case first =>
    by_cases h0 : c.chain.length = 0
    · have e4 : decide ((0 : Int) < (c.chain.length : Int)) = false := decide_eq_false (by omega)
      have e5 : decide (0 < c.chain.length) = false := decide_eq_false (by omega)
      clear h0 hwh
      go_wp2_with fail
      go_meet
      exact ⟨rfl, Grow.refl _⟩
    · have e4 : decide ((0 : Int) < (c.chain.length : Int)) = true := decide_eq_true (by omega)
      have e5 : decide (0 < c.chain.length) = true := decide_eq_true (by omega)
      obtain rfl : aw = true := hwh.resolve_left h0
      clear h0 hwh
      go_wp2_with fail
      (with_reducible refine Hw.out.mono ?_)
      rintro e w2 ⟨rfl, hg2⟩
      go_wp2_with fail
      go_meet
      exact ⟨rfl, hg2⟩
  case rest =>
    obtain ⟨rfl, hg2⟩ := hcut
    have Hg2 := Lib.hid hg2
    have hb2 := hg2.heap Hr1.out
    have q1 : wc.cell? ⟨w.heap.size, 1, none⟩ = some (.slice a c.chain.length cc) := by simp [World.cell?, hb2]
    have hz2 : w.heap.size < wc.heap.size := lt_of_getElem? hb2
    clear hg2 Hw hwh q0 hb2
    go_wp2_with fail
    go_loopw [37, 3] (fun iv bv wr => ∃ i : Nat, iv = .int .i64 i ∧ i ≤ c.chain.length ∧ bv = .bool false ∧ Grow w1 wr) (fun iv _ _ => c.chain.length - (intOf iv).toNat)
    case atStart => exact ⟨0, rfl, Nat.zero_le _, rfl, Hg2.out⟩
    case round =>
      obtain ⟨i, rfl, hi, rfl, hg⟩ := hrel
      have hbr := hg.heap Hr1.out
      have hzr : w.heap.size < wr.heap.size := lt_of_getElem? hbr
      have q1r : wr.cell? ⟨w.heap.size, 1, none⟩ = some (.slice a c.chain.length cc) := by simp [World.cell?, hbr]
      have q2r : wr.cell? ⟨w.heap.size, 2, none⟩ = some (.slice sa c.stores.length sc) := by simp [World.cell?, hbr]
      by_cases hlt : i < c.chain.length
      · obtain ⟨m, hm⟩ : ∃ m, c.chain[i]? = some m := ⟨c.chain[i], by simp [hlt]⟩
        have hmm := List.mem_of_getElem? hm
        have hch := (H.out.chain.grow (Hg1.out.trans hg))
        obtain ⟨b2, o2, c2, e2', hN, hb2', hr2⟩ := hch.addr hm
        cases e2'
        obtain ⟨m0, m1, m2⟩ := rd_mem hr2 hm
        have hi1 : (i : Int) < (c.chain.length : Int) := by omega
        have hblk : Grow wr (wr.alloc (.cells #[.int .i64 (m.node : Int), .int .i64 (m.birth : Int), .bool m.whole] 71)) := Grow.alloc _ _
        have hnb := heap_alloc_new wr (.cells #[.int .i64 (m.node : Int), .int .i64 (m.birth : Int), .bool m.whole] 71)
        have hne : w.heap.size ≠ wr.heap.size := by omega
        have Hnd := Lib.hid (mnode_true (HC.out.node m hmm))
        have Hbd := Lib.hid (mborn_true (HC.out.birth m hmm))
        have hfr := rowR_front (hch.grow hblk) (i := i) (by omega)
        have hct := cont_one hfr (by simp; omega) enters_checkClo (fun W m' hg' => checkClo_any (n := m.node) hnb W m' hg')
        rw [uniq_take HC.out.uniq hm] at hct
        have Hct := Lib.hid hct
        have Hg := Lib.hid (hg.trans hblk)
        have hmin : (if (5 : Int) < (i : Int) then (5 : Int) else (i : Int)) = (i : Int) := by split <;> omega
        have hicc : i ≤ cc := by omega
        clear hm hmm hch hr2 hblk hnb hfr hct hg hbr
        go_wp2_with fail
        (with_reducible refine (Hnd.out _).mono ?_)
        rintro e w5 ⟨rfl, hw1⟩
        have hw2 := hw1.symm
        subst hw2
        clear hw1 Hnd
        go_wp2_with fail
        (with_reducible refine (Hbd.out _).mono ?_)
        rintro e w5 ⟨rfl, hw1⟩
        have hw2 := hw1.symm
        subst hw2
        clear hw1 Hbd
        go_wp2_with fail
        (with_reducible refine Hct.out.mono ?_)
        rintro e w5 ⟨rfl, hg5⟩
        have Hg5 := Lib.hid (Hg.out.trans hg5)
        clear Hct hg5 Hg hmin
        go_wp2
        go_roundw
        case rel => exact ⟨i + 1, by simp, hlt, rfl, Hg5.out⟩
        case measure => simp [intOf]; omega
      · obtain rfl : i = c.chain.length := by omega
        have Hg := Lib.hid hg
        have hls : c.stores.length ≤ 16 := HC.out.stl
        clear hg hbr hlt q1r
        go_wp2_with fail
        go_loopw [68, 3] (fun iv bv wx => ∃ i : Nat, iv = .int .i64 i ∧ i ≤ c.stores.length ∧ bv = .bool false ∧ wx = wr) (fun iv _ _ => c.stores.length - (intOf iv).toNat)
        case atStart => exact ⟨0, rfl, Nat.zero_le _, rfl, rfl⟩
        case round =>
          obtain ⟨i, rfl, hi, rfl, hww⟩ := hrel
          have hww' := hww.symm
          subst hww'
          clear hww
          by_cases hlt : i < c.stores.length
          · obtain ⟨n, hn⟩ : ∃ n, c.stores[i]? = some n := ⟨c.stores[i], by simp [hlt]⟩
            have hst := (H.out.stores.grow (Hg1.out.trans Hg.out))
            obtain ⟨b3, o3, c3, e3', hN, hb3', hr3⟩ := hst.addr hn
            cases e3'
            have n0 : wr.cell? ⟨b3, o3 + i, none⟩ = some (.int .i64 (n : Int)) := by have := hr3 i n hn 0 _ rfl; simpa using this
            have Hnd := Lib.hid (mnode_true (HC.out.st16 n (List.mem_of_getElem? hn)))
            have hi1 : (i : Int) < (c.stores.length : Int) := by omega
            rcases Nat.eq_zero_or_pos i with rfl | hip
            · rw [Nat.add_zero] at n0
              clear hn hst hr3
              go_wp2_with fail
              (with_reducible refine (Hnd.out _).mono ?_)
              rintro e w5 ⟨rfl, hw1⟩
              have hw2 := hw1.symm
              subst hw2
              clear hw1 Hnd
              go_wp2
              go_roundw
              case rel => exact ⟨1, rfl, by omega, rfl, trivial⟩
              case measure => simp [intOf]; omega
            · have ez : decide ((0 : Int) < (i : Int)) = true := decide_eq_true (by omega)
              have ez2 : decide (0 < i) = true := decide_eq_true (by omega)
              obtain ⟨k, rfl⟩ : ∃ k, i = k + 1 := ⟨i - 1, by omega⟩
              obtain ⟨p, hp⟩ : ∃ p, c.stores[k]? = some p := ⟨c.stores[k], by simp [show k < c.stores.length by omega]⟩
              have p0 : wr.cell? ⟨b3, o3 + k, none⟩ = some (.int .i64 (p : Int)) := by have := hr3 k p hp 0 _ rfl; simpa using this
              have hpn : p < n := by
                have h1 := List.pairwise_iff_getElem.1 HC.out.st k (k + 1) (by omega) hlt (by omega)
                obtain ⟨a1, a2⟩ := List.getElem?_eq_some_iff.1 hn
                obtain ⟨a3, a4⟩ := List.getElem?_eq_some_iff.1 hp
                rw [a2, a4] at h1
                exact h1
              have ec : decide (n ≤ p) = false := decide_eq_false (by omega)
              obtain ⟨q, hq⟩ : ∃ q, q = k + 1 := ⟨_, rfl⟩
              have hw1 : IntKind.i64.wrap ((q : Int) - 1) = (k : Int) := by rw [hq]; exact (by simpa using IntWalk.i64_in (k : Int) (by omega))
              have hq1 : (q : Int) - 1 = (k : Int) := by omega
              have hkl : (k : Int) < (c.stores.length : Int) := by omega
              rw [← hq] at n0 hi1 hlt ⊢
              clear hn hst hr3 hp hpn hq hi hip
              go_wp2_with fail
              (with_reducible refine (Hnd.out _).mono ?_)
              rintro e w5 ⟨rfl, hw1⟩
              have hw2 := hw1.symm
              subst hw2
              clear hw1 Hnd
              go_wp2
              go_roundw
              case rel => exact ⟨q + 1, by simp, hlt, rfl, trivial⟩
              case measure => simp [intOf]; omega
          · obtain rfl : i = c.stores.length := by omega
            have Hgf := Lib.hid (Hg1.out.trans Hg.out)
            clear hlt
            go_wp2
            go_ret
            exact ⟨rfl, Hgf.out⟩
end
end Go.Proofs.Ytfchjoejdijjeaa

/- slices.Clone of members and of numbers. -/
namespace Go.Gl
open Go Go.RowKit
section
variable {α : Type} {enc : α → List Value} {k : Nat} {N : Nat → Prop} {w : World} {v : Value} {xs : List α}
/-- 'append([]E{}, v...)'. -/
theorem append_copy {P : Program} {t e : TypeId} {z : Value} {bytes : Nat} (ht : P.underlying t = some (.slice e)) (hi : (P.info? e).map (fun i => (i.zero, i.size, i.bytes)) = some (some z, k, bytes)) (hz : z.cells.size = k) (hk0 : 0 < k) (hby : bytes ≤ 1000)
    (hk : ∀ x, (enc x).length = k) (hone : ∀ x ∈ xs, ∀ u ∈ enc x, u.oneCell' = true) (h : RowR N w v enc k xs) (hl : xs.length ≤ 1000000) :
    ∃ v' w', (Builtin.append_ #[t, t] t #[.slice (some ⟨w.heap.size, 0, none⟩) 0 0, v]).run P (w.alloc (.cells #[] e)) = .ok v' w' ∧ RowR (fun x => w.heap.size ≤ x) w' v' enc k xs ∧ Grow w w' := by
  obtain ⟨i, hi0, hzz, hsz, hbb⟩ := info_parts hi
  have hga : Grow w (w.alloc (.cells #[] e)) := Grow.alloc _ _
  have hsrc := (h.grow hga).src (P := P) (t := t) ht hk hk0 hone
  have hs' : Src P i.size t v xs.length (xs.flatMap enc) (w.alloc (.cells #[] e)) := by rw [hsz]; exact hsrc
  by_cases hx : xs = []
  · subst hx
    exact ⟨_, _, run_append_nothing _ t t t e i ht hi0 _ 0 0 (Nat.le_refl _) v hs', ⟨_, 0, rfl, Nat.le_refl _, Nat.zero_le _, (fun e => by cases e), .inl rfl⟩, hga⟩
  · have hpos : 0 < xs.length := List.length_pos_iff.2 hx
    have hold : (Builtin.firstCells i.size 0 (.slice (some ⟨w.heap.size, 0, none⟩) 0 0)).run P (w.alloc (.cells #[] e)).drew = .ok ([] : List Value).toArray (w.alloc (.cells #[] e)).drew := by
      exact run_firstCells_some (w.alloc (.cells #[] e)).drew i.size 0 ⟨w.heap.size, 0, none⟩ 0 0 [] (by simp) (fun j u hu => by simp at hu)
    have hmul : xs.length * bytes ≤ 1000000 * 1000 := Nat.mul_le_mul hl hby
    have hr := run_append_grow_src (w.alloc (.cells #[] e)) t t t e i _ ht hi0 hzz (some ⟨w.heap.size, 0, none⟩) 0 0 [] hold v xs.length (xs.flatMap enc) hs' (by omega) (by omega) (by rw [hbb]; exact growslice_fits (by omega) (by rw [Nat.zero_add]; omega))
    have hge := grownCap_ge (w.alloc (.cells #[] e)) (0 + xs.length) 0 e
    have hcm : grownCap (w.alloc (.cells #[] e)) (0 + xs.length) 0 e ≤ maxLen := grownCap_le_maxLen (w.alloc (.cells #[] e)) (0 + xs.length) 0 e (by unfold maxLen; omega)
    refine ⟨_, _, hr, ⟨_, _, by rw [Nat.zero_add], by omega, hcm, (fun e => by cases e), .inr ⟨(w.alloc (.cells #[] e)).heap.size, 0, rfl, hga.size, by simp, ?_⟩⟩, ⟨rfl, rfl, rfl, by simp; omega, fun q hq => (heap_alloc_old (w.alloc (.cells #[] e)).drew _ (Nat.lt_of_lt_of_le hq hga.size)).trans (heap_alloc_old w _ hq)⟩⟩
    intro j x hxj c u hu
    have hc : c < k := by have := (List.getElem?_eq_some_iff.1 hu).1; rwa [hk] at this
    have h5 := flat_get (enc := enc) hk hxj c hc
    rw [hu] at h5
    have hlt : j * k + c < (xs.flatMap enc).length := (List.getElem?_eq_some_iff.1 h5).1
    have hnew := heap_alloc_new (w.alloc (.cells #[] e)).drew (.cells ((([] : List Value) ++ xs.flatMap enc).toArray ++ Builtin.zeroCells z.cells (grownCap (w.alloc (.cells #[] e)) (0 + xs.length) 0 e - (0 + xs.length))) e)
    have hd : (w.alloc (.cells #[] e)).drew.heap.size = (w.alloc (.cells #[] e)).heap.size := rfl
    rw [hd] at hnew
    simp only [Nat.zero_add] at hnew ⊢
    unfold World.cell?
    rw [show (⟨(w.alloc (.cells #[] e)).heap.size, j * k + c, none⟩ : Addr).block = (w.alloc (.cells #[] e)).heap.size from rfl, hnew]
    show ((([] : List Value) ++ xs.flatMap enc).toArray ++ Builtin.zeroCells z.cells (grownCap (w.alloc (.cells #[] e)) xs.length 0 e - xs.length))[j * k + c]? = some u
    rw [Array.getElem?_append_left (by simpa using hlt)]
    simpa using h5
end
end Go.Gl
namespace Go.Proofs.Ytfchjoejdijjeaa
open Go.RowKit Go.Gl Go.Wal Go.Ch Go.Shelf
section
variable {N : Nat → Prop} {w : World} {v : Value}
theorem Try.infoMem : (Try.prog.info? 71).map (fun i => (i.zero, i.size, i.bytes)) = some (some (.agg #[.int .i64 0, .int .i64 0, .bool false]), 3, 24) := by kernel_rfl
theorem Try.infoInt : (Try.prog.info? 3).map (fun i => (i.zero, i.size, i.bytes)) = some (some (.int .i64 0), 1, 8) := by kernel_rfl
set_option maxHeartbeats 400000 in
theorem cloneM_any {l : List Mem} (h : MemR N w v l) (hl : l.length ≤ 1000000) :
    Calls Try.prog 34 #[v] w fun e w' => ∃ v', e = .returned v' ∧ MemR (fun x => w.heap.size ≤ x) w' v' l ∧ Grow w w' := by
  obtain ⟨v', w', h1, h2, h3⟩ := append_copy Try.underlying57 Try.infoMem rfl (by decide) (by decide) encMem3 (fun x _ => encMem_one x) h hl
  have Hrun := Lib.hid h1
  have Hpost := Lib.hid h2
  have Hgr := Lib.hid h3
  obtain ⟨a, c, rfl, hlc, _, hn, _⟩ := h
  have h0 := @Lib.run_eql_slice_nil Try.prog
  cases a with
  | none =>
    have hc := hn rfl
    have : l = [] := List.eq_nil_of_length_eq_zero (by omega)
    subst this
    subst hc
    clear h1 h2 h3 hn hlc
    go_enter Try.func34, Try.ntmps34
    go_wp2
    go_ret
    exact ⟨_, rfl, rowR_nil _ _ _ _, Grow.refl _⟩
  | some a =>
    clear h1 h2 h3 hn
    go_enter Try.func34, Try.ntmps34
    go_wp2_with (at_builtin; refine wpList_append rfl rfl rfl rfl Hrun.out ?_)
    go_ret
    exact ⟨_, rfl, Hpost.out, Hgr.out⟩
set_option maxHeartbeats 400000 in
theorem cloneI_any {l : List Nat} (h : IntR N w v l) (hl : l.length ≤ 1000000) :
    Calls Try.prog 35 #[v] w fun e w' => ∃ v', e = .returned v' ∧ IntR (fun x => w.heap.size ≤ x) w' v' l ∧ Grow w w' := by
  obtain ⟨v', w', h1, h2, h3⟩ := append_copy Try.underlying40 Try.infoInt rfl (by decide) (by decide) encN1 (fun x _ u hu => by rw [List.mem_singleton.1 hu]; rfl) h hl
  have Hrun := Lib.hid h1
  have Hpost := Lib.hid h2
  have Hgr := Lib.hid h3
  obtain ⟨a, c, rfl, hlc, _, hn, _⟩ := h
  have h0 := @Lib.run_eql_slice_nil Try.prog
  cases a with
  | none =>
    have hc := hn rfl
    have : l = [] := List.eq_nil_of_length_eq_zero (by omega)
    subst this
    subst hc
    clear h1 h2 h3 hn hlc
    go_enter Try.func35, Try.ntmps35
    go_wp2
    go_ret
    exact ⟨_, rfl, rowR_nil _ _ _ _, Grow.refl _⟩
  | some a =>
    clear h1 h2 h3 hn
    go_enter Try.func35, Try.ntmps35
    go_wp2_with (at_builtin; refine wpList_append rfl rfl rfl rfl Hrun.out ?_)
    go_ret
    exact ⟨_, rfl, Hpost.out, Hgr.out⟩
end
end Go.Proofs.Ytfchjoejdijjeaa
