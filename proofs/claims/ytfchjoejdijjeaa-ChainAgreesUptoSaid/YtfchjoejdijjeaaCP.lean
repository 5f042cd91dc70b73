/- Merged out of EL, EL2, EM: helpers. -/
import Derived.Test.YtfchjoejdijjeaaCO
import Derived.Test.YtfchjoejdijjeaaCA
import Derived.Test.YtfchjoejdijjeaaCN
import Derived.Test.YtfchjoejdijjeaaCM
set_option linter.unusedSimpArgs false
set_option linter.unusedVariables false
/- chain.wholes, New, Config. -/
namespace Go.Proofs.Ytfchjoejdijjeaa
open Go.RowKit Go.Gl Go.Wal Go.Ch Go.Shelf
section
variable {N : Nat → Prop} {w : World} {cv sv : Value} {c : Cfg}
theorem wholes_snoc (l : List Mem) (m : Mem) : wholes (l ++ [m]) = wholes l + if m.whole = true then 1 else 0 := by
  induction l with
  | nil => simp [wholes]
  | cons x l ih => simp only [List.cons_append, wholes, ih]; omega
theorem wholes_le (l : List Mem) : wholes l ≤ l.length := by
  induction l with
  | nil => simp [wholes]
  | cons x l ih => simp only [wholes, List.length_cons]; split <;> omega

set_option maxRecDepth 100000 in
set_option maxHeartbeats 1000000 in
theorem wholes_any (h : CfgR N w cv sv c) :
    Calls Try.prog 47 #[cfgV c.epoch cv sv] w fun e w' => e = .returned (.int .i64 (wholes c.chain : Int)) ∧ Grow w w' := by
  obtain ⟨a, cc, rfl⟩ := h.chain.slice
  obtain ⟨sa, sc, rfl⟩ := h.stores.slice
  have hg1 : Grow w (w.alloc (.cells #[.int .i64 (c.epoch : Int), .slice a c.chain.length cc, .slice sa c.stores.length sc] 59)) := Grow.alloc _ _
  have H := Lib.hid h
  have hlen := h.small
  have Hg1 := Lib.hid hg1
  obtain ⟨R, hR⟩ : ∃ R, wholes c.chain = R := ⟨_, rfl⟩
  rw [hR]
  have HR := Lib.hid hR
  clear h hg1 hR
  go_enter Try.func47, Try.ntmps47
  go_wp2_with fail
  generalize w.alloc (.cells #[.int .i64 (c.epoch : Int), .slice a c.chain.length cc, .slice sa c.stores.length sc] 59) = w1 at *
  go_loopw [9, 3] (fun iv bv wr => ∃ i n : Nat, iv = .int .i64 i ∧ i ≤ c.chain.length ∧ n ≤ i ∧ bv = .int .i64 n ∧ wholes (c.chain.take i) = n ∧ Grow w1 wr) (fun iv _ _ => c.chain.length - (intOf iv).toNat)
  case atStart => exact ⟨0, 0, rfl, Nat.zero_le _, Nat.le_refl _, rfl, rfl, Grow.refl _⟩
  case round =>
    obtain ⟨i, n, rfl, hi, hni, rfl, hwn, hg⟩ := hrel
    by_cases hlt : i < c.chain.length
    · obtain ⟨m, hm⟩ : ∃ m, c.chain[i]? = some m := ⟨c.chain[i], by simp [hlt]⟩
      obtain ⟨b2, o2, c2, e2', hN, hb2', hr2⟩ := (H.out.chain.grow (Hg1.out.trans hg)).addr hm
      cases e2'
      obtain ⟨m0, m1, m2⟩ := rd_mem hr2 hm
      have hi1 : (i : Int) < (c.chain.length : Int) := by omega
      have htk : c.chain.take (i + 1) = c.chain.take i ++ [m] := by rw [List.take_succ_eq_append_getElem hlt]; rw [List.getElem?_eq_getElem hlt] at hm; cases hm; rfl
      have hw2 : wholes (c.chain.take (i + 1)) = n + if m.whole = true then 1 else 0 := by rw [htk, wholes_snoc, hwn]
      have Hw2 := Lib.hid hw2
      have Hg := Lib.hid hg
      have hgf := Lib.hid (hg.trans (Grow.alloc wr (.cells #[.int .i64 (m.node : Int), .int .i64 (m.birth : Int), .bool m.whole] 71)))
      clear hm hr2 hg htk hw2 hwn
      cases hmw : m.whole with
      | true =>
        rw [hmw] at Hw2 hgf m2
        go_wp2
        go_roundw
        case rel => exact ⟨i + 1, n + 1, by simp, hlt, by omega, by simp, Hw2.out, hgf.out⟩
        case measure => simp [intOf]; omega
      | false =>
        rw [hmw] at Hw2 hgf m2
        go_wp2
        go_roundw
        case rel => exact ⟨i + 1, n, by simp, hlt, by omega, rfl, Hw2.out, hgf.out⟩
        case measure => simp [intOf]; omega
    · obtain rfl : i = c.chain.length := by omega
      rw [List.take_length, HR.out] at hwn
      obtain rfl := hwn
      go_wp2
      go_ret
      exact ⟨rfl, Hg1.out.trans hg⟩

variable {C : Type} {f : C → List UInt8} {bb : Nat} {cv' : Value} {b : Box C}
theorem new_any (i birth : Nat) (hi : i ≤ 1000) (hb : birth ≤ 1000000000) (h : BxAt f N w bb cv' b) (hN : ∀ x, N x → x < w.heap.size) :
    Calls Try.prog 22 #[.int .i64 (i : Int), .int .i64 (birth : Int), .iface 48 (.pointer (some ⟨bb, 0, none⟩))] w fun e w' => e = .returned (.pointer (some ⟨w.heap.size, 0, none⟩)) ∧ NdAt f N w' w.heap.size bb cv' (.slice none 0 0) (.slice none 0 0) (newD i birth) b ∧ Grow w w' := by
  have hg : Grow w (w.alloc (.cells #[.int .i64 0, .slice none 0 0, .slice none 0 0, .int .i64 (i : Int), .int .i64 (birth : Int), .bool false, .bool false, .iface 48 (.pointer (some ⟨bb, 0, none⟩))] 79)) := Grow.alloc _ _
  have hn : NdAt f N (w.alloc (.cells #[.int .i64 0, .slice none 0 0, .slice none 0 0, .int .i64 (i : Int), .int .i64 (birth : Int), .bool false, .bool false, .iface 48 (.pointer (some ⟨bb, 0, none⟩))] 79)) w.heap.size bb cv' (.slice none 0 0) (.slice none 0 0) (newD i birth) b :=
    ⟨heap_alloc_new _ _, h.grow hg, ⟨rowR_nil _ _ _ _, rowR_nil _ _ _ _, by simp [newD], by simp [newD]⟩, fun x hx e => by have := hN x hx; omega, by simp [newD], hi, hb⟩
  have Hn := Lib.hid hn
  clear hn h hN
  go_enter Try.func22, Try.ntmps22
  go_wp2
  go_ret
  exact ⟨rfl, Hn.out, hg⟩
end
end Go.Proofs.Ytfchjoejdijjeaa

/- A place is stored into a node. -/
namespace Go.Proofs.Ytfchjoejdijjeaa
open Go.RowKit Go.Gl Go.Wal Go.Ch Go.Shelf
section
variable {C : Type} {f : C → List UInt8} {N M : Nat → Prop} {w w' w1 : World} {nb bb : Nat} {cv cfv sv : Value} {d : Nd} {b : Box C}
abbrev put7 (w : World) (g : Nat) (v0 v1 v2 v3 v4 v5 v6 : Value) : World := ((((((w.setCell ⟨g, 0, none⟩ v0).setCell ⟨g, 1, none⟩ v1).setCell ⟨g, 2, none⟩ v2).setCell ⟨g, 3, none⟩ v3).setCell ⟨g, 4, none⟩ v4).setCell ⟨g, 5, none⟩ v5).setCell ⟨g, 6, none⟩ v6
theorem put7_heap {w : World} {g : Nat} {z0 z1 z2 z3 z4 z5 z6 : Value} {t : TypeId} (h : w.heap[g]? = some (.cells #[z0, z1, z2, z3, z4, z5, z6] t (0, 0))) (v0 v1 v2 v3 v4 v5 v6 : Value) :
    (put7 w g v0 v1 v2 v3 v4 v5 v6).heap[g]? = some (.cells #[v0, v1, v2, v3, v4, v5, v6] t (0, 0)) := by
  have h0 := setCell_heap h 0 v0
  have h1 := setCell_heap h0 1 v1
  have h2 := setCell_heap h1 2 v2
  have h3 := setCell_heap h2 3 v3
  have h4 := setCell_heap h3 4 v4
  have h5 := setCell_heap h4 5 v5
  have h6 := setCell_heap h5 6 v6
  simpa using h6
theorem put8_heap {w : World} {g : Nat} {z0 z1 z2 z3 z4 z5 z6 z7 : Value} {t : TypeId} (h : w.heap[g]? = some (.cells #[z0, z1, z2, z3, z4, z5, z6, z7] t (0, 0))) (v0 v1 v2 v3 v4 v5 v6 : Value) :
    (put7 w g v0 v1 v2 v3 v4 v5 v6).heap[g]? = some (.cells #[v0, v1, v2, v3, v4, v5, v6, z7] t (0, 0)) := by
  have h0 := setCell_heap h 0 v0
  have h1 := setCell_heap h0 1 v1
  have h2 := setCell_heap h1 2 v2
  have h3 := setCell_heap h2 3 v3
  have h4 := setCell_heap h3 4 v4
  have h5 := setCell_heap h4 5 v5
  have h6 := setCell_heap h5 6 v6
  simpa using h6
theorem put7_grow {w w1 : World} {g : Nat} (h : Grow w w1) (hg : w.heap.size ≤ g) (v0 v1 v2 v3 v4 v5 v6 : Value) : Grow w (put7 w1 g v0 v1 v2 v3 v4 v5 v6) :=
  ((((((h.setCell (p := ⟨g, 0, none⟩) hg v0).setCell (p := ⟨g, 1, none⟩) hg v1).setCell (p := ⟨g, 2, none⟩) hg v2).setCell (p := ⟨g, 3, none⟩) hg v3).setCell (p := ⟨g, 4, none⟩) hg v4).setCell (p := ⟨g, 5, none⟩) hg v5).setCell (p := ⟨g, 6, none⟩) hg v6
theorem put7_sep {F : Nat → Prop} (w : World) {g : Nat} (h : F g) (v0 v1 v2 v3 v4 v5 v6 : Value) : Sep F w (put7 w g v0 v1 v2 v3 v4 v5 v6) F :=
  ((((((Sep.set F w h 0 v0).trans (Sep.set F _ h 1 v1)).trans (Sep.set F _ h 2 v2)).trans (Sep.set F _ h 3 v3)).trans (Sep.set F _ h 4 v4)).trans (Sep.set F _ h 5 v5)).trans (Sep.set F _ h 6 v6)

/-- A place is stored into a node. -/
theorem NdAt.place (h : NdAt f N w nb bb cv cfv sv d b) {d' : Nd} {na oa : Value} (hc : CfgR M w na oa d'.cfg) (hM : ∀ x, M x → ¬ FN nb bb cv x) (hN : ∀ x, N x → x < w.heap.size → M x)
    (e1 : d'.cfg.epoch ≤ 1099511627776) (e2 : d'.self ≤ 1000) (e3 : d'.birth ≤ 1000000000) :
    NdAt f M (put7 w nb (.int .i64 (d'.cfg.epoch : Int)) na oa (.int .i64 (d'.self : Int)) (.int .i64 (d'.birth : Int)) (.bool d'.has) (.bool d'.told)) nb bb cv na oa d' b := by
  have hs := put7_sep (F := (· = nb)) w rfl (.int .i64 (d'.cfg.epoch : Int)) na oa (.int .i64 (d'.self : Int)) (.int .i64 (d'.birth : Int)) (.bool d'.has) (.bool d'.told)
  have hb := put8_heap h.blk (.int .i64 (d'.cfg.epoch : Int)) na oa (.int .i64 (d'.self : Int)) (.int .i64 (d'.birth : Int)) (.bool d'.has) (.bool d'.told)
  generalize put7 w nb (.int .i64 (d'.cfg.epoch : Int)) na oa (.int .i64 (d'.self : Int)) (.int .i64 (d'.birth : Int)) (.bool d'.has) (.bool d'.told) = wz at *
  have hne := h.ne
  have hk : Kp M w wz := Kp.ofSep hs (fun x hx e => hM x hx (.inl e))
  refine ⟨hb, ⟨?_, (h.box.row.mono hN).kp hk (fun g hg => ?_), fun x hx hF => hM x hx (.inr hF), h.box.len, h.box.fst, h.box.ep⟩, hc.kp hk, fun x hx e => hM x hx (.inl e), e1, e2, e3⟩
  · rw [hs.out bb (h.box.lt (.inl rfl)) (fun e => hne (.inl e.symm))]; exact h.box.blk
  · exact hs.out g (h.box.lt (.inr hg)) (fun e => hne (.inr (e ▸ hg)))
/-- Whole and the tail, their results named. -/
theorem nwhole_eq (h : NdAt f N w nb bb cv cfv sv d b) {wh : Bool} (e : wholeB d b = wh) :
    Calls Try.prog 15 #[.pointer (some ⟨nb, 0, none⟩)] w fun e w' => e = .returned (.bool wh) ∧ Grow w w' := by
  subst e; exact nwhole_any h
theorem ptail_eq (h : NdAt f N w nb bb cv cfv sv d b) {tl : Bool} (e : d.tail = tl) :
    Calls Try.prog 48 #[.pointer (some ⟨nb, 0, none⟩)] w fun e w' => e = .returned (.bool tl) ∧ Grow w w' := by
  subst e; exact ptail_any h.pl
end
end Go.Proofs.Ytfchjoejdijjeaa

/- A node: Configure. -/
namespace Go.Proofs.Ytfchjoejdijjeaa
open Go.RowKit Go.Gl Go.Wal Go.Ch Go.Shelf
section
variable {C : Type} {f : C → List UInt8} {N : Nat → Prop} {w w' w1 : World} {nb bb : Nat} {cv cfv sv ccv csv : Value} {d : Nd} {b : Box C} {c : Cfg}

theorem mark_full (h : BxAt f N w bb cv b) (hfu : b.full = true) {ep : Nat} (wh : Bool) : Calls Try.prog 92 #[.pointer (some ⟨bb, 0, none⟩), .int .i64 (ep : Int), .bool wh] w fun e w' => e = .returned (.int .i64 5) ∧ w' = w := by
  obtain ⟨_, _, _, _, c4⟩ := h.cells
  have hlt := lt_of_getElem? h.blk
  rw [hfu] at c4
  clear h
  go_enter Try.func92, Try.ntmps92
  go_wp2
  go_ret
  exact ⟨rfl, rfl⟩
theorem mark_ok (h : BxAt f N w bb cv b) (hfu : b.full = false) {ep : Nat} (wh : Bool) (he : ep ≤ 1099511627776) : Calls Try.prog 92 #[.pointer (some ⟨bb, 0, none⟩), .int .i64 (ep : Int), .bool wh] w fun e w' => e = .returned (.int .i64 0) ∧ BxAt f N w' bb cv (b.mark ep wh) ∧ Sep (FB bb cv) w w' (FB bb cv) := by
  refine (mark_any h (wh := wh) he).mono fun e w' hh => ?_
  rw [hfu] at hh
  exact hh

set_option maxRecDepth 100000 in
set_option maxHeartbeats 8000000 in
theorem conf_any (h : NdAt f N w nb bb cv cfv sv d b) (hf : ∀ c, (f c).length ≤ 1048576) (hc : CfgR N w ccv csv c) (hok : CfgOk c) :
    Calls Try.prog 30 #[.pointer (some ⟨nb, 0, none⟩), cfgV c.epoch ccv csv] w (OutPost f N w nb bb cv (confM d b c)) := by
  have H0 := Lib.hid h
  have HC0 := Lib.hid hc
  have Hok := Lib.hid hok
  obtain ⟨ca, cc, rfl⟩ := hc.chain.slice
  obtain ⟨ta, tc, rfl⟩ := hc.stores.slice
  obtain ⟨da, dc, rfl⟩ := h.cfg.chain.slice
  obtain ⟨ea, ec, rfl⟩ := h.cfg.stores.slice
  obtain ⟨O, hO⟩ : ∃ o, confM d b c = o := ⟨_, rfl⟩
  rw [hO]
  have HO := Lib.hid hO
  have hg0 : Grow w (w.alloc (.cells #[.int .i64 (c.epoch : Int), .slice ca c.chain.length cc, .slice ta c.stores.length tc] 59)) := Grow.alloc _ _
  have Hg0 := Lib.hid hg0
  have Hcb := Lib.hid (heap_alloc_new w (.cells #[.int .i64 (c.epoch : Int), .slice ca c.chain.length cc, .slice ta c.stores.length tc] 59))
  have hlt := h.lt
  have k7 := h.m
  have m1 := Try.methMarked (.pointer (some ⟨bb, 0, none⟩))
  have m2 := Try.methMark (.pointer (some ⟨bb, 0, none⟩))
  have hep := hok.ep
  clear h hc hok hO hg0
  go_enter Try.func30, Try.ntmps30
  go_upto_region 1 with fail
  generalize w.alloc (.cells #[.int .i64 (c.epoch : Int), .slice ca c.chain.length cc, .slice ta c.stores.length tc] 59) = w1 at *
  have hn1 := H0.out.grow Hg0.out
  have k71 := hn1.m
  have hl1 := hn1.lt
  have Hma := Lib.hid (marked_any hn1.box)
  clear hn1 k7 hlt
  go_wp2_with fail
  (with_reducible refine Hma.out.mono ?_)
  rintro e w2 ⟨rfl, hg2⟩
  have Hg2 := Lib.hid (Hg0.out.trans hg2)
  have Hcb2 := Lib.hid (hg2.heap Hcb.out)
  have Hg1 := Lib.hid hg2
  clear hg2 Hma k71 hl1
  go_upto_region 2 with fail
  obtain ⟨q1, hq1⟩ : ∃ q, decide (c.epoch < d.cfg.epoch) = q := ⟨_, rfl⟩
  obtain ⟨q2, hq2⟩ : ∃ q, decide (c.epoch < b.epoch) = q := ⟨_, rfl⟩
  obtain ⟨q3, hq3⟩ : ∃ q, d.has = q := ⟨_, rfl⟩
  obtain ⟨q4, hq4⟩ : ∃ q, ((c.epoch : Int) == (d.cfg.epoch : Int)) = q := ⟨_, rfl⟩
  obtain ⟨q5, hq5⟩ : ∃ q, decide (wholes c.chain ≤ wholes d.cfg.chain) = q := ⟨_, rfl⟩
  have e4 : decide (c.epoch = d.cfg.epoch) = q4 := by rw [← hq4]; by_cases h : c.epoch = d.cfg.epoch <;> simp [h]; omega
  have hstale : stale d b c = (q1 || q2 || (q3 && q4 && q5)) := by unfold stale; rw [hq1, hq2, hq3, e4, hq5]
  have Hst := Lib.hid hstale
  have He4 := Lib.hid e4
  have Hq3 := Lib.hid hq3
  clear hstale e4
  have hi1 : decide ((c.epoch : Int) < (d.cfg.epoch : Int)) = q1 := by rw [← hq1]; simp
  have hi2 : decide ((c.epoch : Int) < (b.epoch : Int)) = q2 := by rw [← hq2]; simp
  have hi5 : decide ((wholes c.chain : Int) ≤ (wholes d.cfg.chain : Int)) = q5 := by rw [← hq5]; simp
  go_cut [69] from 21 to 69 (fun v wx => v = .bool (q1 || q2 || (q3 && q4 && q5)) ∧ Grow w2 wx)
  case first =>
    have hnd := H0.out.grow (Hg2.out.trans (Grow.drew w2))
    have hcd := HC0.out.grow (Hg2.out.trans (Grow.drew w2))
    have hbd := (Grow.drew w2).heap Hcb2.out
    have HS : Hid (∀ W, Grow w2 W → nb < W.heap.size ∧ W.cell? ⟨nb, 0, none⟩ = some (.int .i64 (d.cfg.epoch : Int)) ∧ W.cell? ⟨nb, 1, none⟩ = some (.slice da d.cfg.chain.length dc) ∧ W.cell? ⟨nb, 2, none⟩ = some (.slice ea d.cfg.stores.length ec) ∧ W.cell? ⟨nb, 5, none⟩ = some (.bool q3) ∧
        w.heap.size < W.heap.size ∧ W.cell? ⟨w.heap.size, 0, none⟩ = some (.int .i64 (c.epoch : Int)) ∧ W.cell? ⟨w.heap.size, 1, none⟩ = some (.slice ca c.chain.length cc) ∧ W.cell? ⟨w.heap.size, 2, none⟩ = some (.slice ta c.stores.length tc)) := Lib.hid fun W hW => by
      have h1 := H0.out.grow (Hg2.out.trans hW)
      have h2 := hW.heap Hcb2.out
      exact ⟨h1.lt, h1.pl.c0, h1.pl.c1, h1.pl.c2, by rw [h1.pl.c5, Hq3.out], lt_of_getElem? h2, by simp [World.cell?, h2], by simp [World.cell?, h2], by simp [World.cell?, h2]⟩
    refine wp_region_pi (fun W => nb < W.heap.size ∧ W.cell? ⟨nb, 0, none⟩ = some (.int .i64 (d.cfg.epoch : Int)) ∧ W.cell? ⟨nb, 1, none⟩ = some (.slice da d.cfg.chain.length dc) ∧ W.cell? ⟨nb, 2, none⟩ = some (.slice ea d.cfg.stores.length ec) ∧ W.cell? ⟨nb, 5, none⟩ = some (.bool q3) ∧
        w.heap.size < W.heap.size ∧ W.cell? ⟨w.heap.size, 0, none⟩ = some (.int .i64 (c.epoch : Int)) ∧ W.cell? ⟨w.heap.size, 1, none⟩ = some (.slice ca c.chain.length cc) ∧ W.cell? ⟨w.heap.size, 2, none⟩ = some (.slice ta c.stores.length tc))
      ((0, false) :: (1, true) :: ((List.range 37).map fun i => (i + 2, false)) ++ ((List.range 5).map fun i => (i + 40, false)) ++ [(39, true), (45, true), (46, false), (47, false), (48, false)]) (by kernel_rfl) (by kernel_rfl) (fun c a d v w h => by cases d <;> exact h) (HS.out _ (Grow.drew w2)) ?_
    simp only [List.range, List.range.loop, List.map, List.cons_append, List.nil_append, Nat.reduceAdd]
    simp only [arrange, nth]
    repeat ((first | (apply wpPi_quiet; rfl; rintro W ⟨hl0, hW0, hW1, hW2, hW3, hl1, hW4, hW5, hW6⟩; go_simp; with_reducible rfl) | (apply wpPi_off; rfl)); simp only [putA, List.set])
    refine wpPi_call (by rfl) (by go_simp) (mcheck_any hcd Hok.out) ?_
    rintro e w3 ⟨rfl, hg3⟩
    have hgd := (Grow.drew w2).trans hg3
    refine ⟨_, rfl, HS.out _ hgd, ?_⟩
    try first | simp only [putA, List.set] | simp only [putN]
    have Hgd := Lib.hid hgd
    have Hwc := Lib.hid (wholes_any (HC0.out.grow (Hg2.out.trans hgd)))
    clear hgd hg3 hnd hcd hbd
    cases q1 with
    | true =>
      repeat ((first | (apply wpPi_quiet; rfl; rintro W ⟨hl0, hW0, hW1, hW2, hW3, hl1, hW4, hW5, hW6⟩; go_simp; with_reducible rfl) | (apply wpPi_off; rfl)); simp only [putA, List.set])
      refine wpPi_act_off (by rfl) (HS.out _ Hgd.out) ?_
      try first | simp only [putA, List.set] | simp only [putN]
      refine wpPi_act_off (by rfl) (HS.out _ Hgd.out) ?_
      try first | simp only [putA, List.set] | simp only [putN]
      repeat ((first | (apply wpPi_quiet; rfl; rintro W ⟨hl0, hW0, hW1, hW2, hW3, hl1, hW4, hW5, hW6⟩; go_simp; with_reducible rfl) | (apply wpPi_off; rfl)); simp only [putA, List.set])
      refine wpPi_nil ?_
      go_wp2_with fail
      go_meet
      exact ⟨by simp, Hgd.out⟩
    | false =>
      cases q2 with
      | true =>
        repeat ((first | (apply wpPi_quiet; rfl; rintro W ⟨hl0, hW0, hW1, hW2, hW3, hl1, hW4, hW5, hW6⟩; go_simp; with_reducible rfl) | (apply wpPi_off; rfl)); simp only [putA, List.set])
        refine wpPi_act_off (by rfl) (HS.out _ Hgd.out) ?_
        try first | simp only [putA, List.set] | simp only [putN]
        refine wpPi_act_off (by rfl) (HS.out _ Hgd.out) ?_
        try first | simp only [putA, List.set] | simp only [putN]
        repeat ((first | (apply wpPi_quiet; rfl; rintro W ⟨hl0, hW0, hW1, hW2, hW3, hl1, hW4, hW5, hW6⟩; go_simp; with_reducible rfl) | (apply wpPi_off; rfl)); simp only [putA, List.set])
        refine wpPi_nil ?_
        go_wp2_with fail
        go_meet
        exact ⟨by simp, Hgd.out⟩
      | false =>
        cases q3 with
        | false =>
          repeat ((first | (apply wpPi_quiet; rfl; rintro W ⟨hl0, hW0, hW1, hW2, hW3, hl1, hW4, hW5, hW6⟩; go_simp; with_reducible rfl) | (apply wpPi_off; rfl)); simp only [putA, List.set])
          refine wpPi_act_off (by rfl) (HS.out _ Hgd.out) ?_
          try first | simp only [putA, List.set] | simp only [putN]
          refine wpPi_act_off (by rfl) (HS.out _ Hgd.out) ?_
          try first | simp only [putA, List.set] | simp only [putN]
          repeat ((first | (apply wpPi_quiet; rfl; rintro W ⟨hl0, hW0, hW1, hW2, hW3, hl1, hW4, hW5, hW6⟩; go_simp; with_reducible rfl) | (apply wpPi_off; rfl)); simp only [putA, List.set])
          refine wpPi_nil ?_
          go_wp2_with fail
          go_meet
          exact ⟨by simp, Hgd.out⟩
        | true =>
          cases q4 with
          | false =>
            repeat ((first | (apply wpPi_quiet; rfl; rintro W ⟨hl0, hW0, hW1, hW2, hW3, hl1, hW4, hW5, hW6⟩; go_simp; with_reducible rfl) | (apply wpPi_off; rfl)); simp only [putA, List.set])
            refine wpPi_act_off (by rfl) (HS.out _ Hgd.out) ?_
            try first | simp only [putA, List.set] | simp only [putN]
            refine wpPi_act_off (by rfl) (HS.out _ Hgd.out) ?_
            try first | simp only [putA, List.set] | simp only [putN]
            repeat ((first | (apply wpPi_quiet; rfl; rintro W ⟨hl0, hW0, hW1, hW2, hW3, hl1, hW4, hW5, hW6⟩; go_simp; with_reducible rfl) | (apply wpPi_off; rfl)); simp only [putA, List.set])
            refine wpPi_nil ?_
            go_wp2_with fail
            go_meet
            exact ⟨by simp, Hgd.out⟩
          | true =>
            repeat ((first | (apply wpPi_quiet; rfl; rintro W ⟨hl0, hW0, hW1, hW2, hW3, hl1, hW4, hW5, hW6⟩; go_simp; with_reducible rfl) | (apply wpPi_off; rfl)); simp only [putA, List.set])
            refine wpPi_call (by rfl) (by go_simp) Hwc.out ?_
            rintro e w4 ⟨rfl, hg4⟩
            have hgd4 := Hgd.out.trans hg4
            refine ⟨_, rfl, HS.out _ hgd4, ?_⟩
            try first | simp only [putA, List.set] | simp only [putN]
            refine wpPi_call (by rfl) (by go_simp) (wholes_any (H0.out.grow (Hg2.out.trans hgd4)).cfg) ?_
            rintro e w5 ⟨rfl, hg5⟩
            have Hgd5 := Lib.hid (hgd4.trans hg5)
            refine ⟨_, rfl, HS.out _ Hgd5.out, ?_⟩
            try first | simp only [putA, List.set] | simp only [putN]
            clear hg4 hgd4 hg5
            repeat ((first | (apply wpPi_quiet; rfl; rintro W ⟨hl0, hW0, hW1, hW2, hW3, hl1, hW4, hW5, hW6⟩; go_simp; with_reducible rfl) | (apply wpPi_off; rfl)); simp only [putA, List.set])
            refine wpPi_nil ?_
            go_wp2_with fail
            go_meet
            exact ⟨by simp, Hgd5.out⟩
  case rest =>
    obtain ⟨hv69, hg3⟩ := hcut
    obtain ⟨w3, hw3⟩ : ∃ W, W = wc := ⟨_, rfl⟩
    subst hw3
    have Hg3 := Lib.hid (Hg2.out.trans hg3)
    have Hcb3 := Lib.hid (hg3.heap Hcb2.out)
    have Hq4b := Lib.hid hq4
    clear hi1 hi2 hi5 hq1 hq2 hq3 hq4 hq5 hg3 Hg2 Hg1 Hcb2
    obtain ⟨st, hst⟩ : ∃ q, (q1 || q2 || (q3 && q4 && q5)) = q := ⟨_, rfl⟩
    rw [hst] at hv69 Hst
    subst hv69
    clear hst
    cases st with
    | true =>
      have Hq : Hid (OutPost f N w nb bb cv O (.returned (.tuple #[.slice none 0 0, .slice none 0 0])) w3) := Lib.hid (by
        rw [← HO.out]; unfold confM; rw [if_pos Hst.out]; exact OutPost.same H0.out Hg3.out)
      go_wp2
      go_ret2
      exact Hq.out
    | false =>
      obtain ⟨was, hwas⟩ : ∃ q, (d.has && d.tail && wholeB d b) = q := ⟨_, rfl⟩
      have Hwas := Lib.hid hwas
      clear hwas
      have hn3 := H0.out.grow Hg3.out
      have Htl := Lib.hid (ptail_any hn3.pl)
      have k53 := hn3.pl.c5
      have hl3 := hn3.lt
      clear hn3
      go_upto_region 4 with fail
      go_cut [8] from 70 to 84 (fun v wx => v = .bool was ∧ Grow w3 wx)
      case first =>
        have hw : was = (d.has && d.tail && wholeB d b) := Hwas.out.symm
        cases hh : d.has with
        | false =>
          rw [hh] at k53 hw
          obtain rfl : was = false := hw
          clear hh
          go_wp2_with fail
          go_meet
          exact ⟨rfl, Grow.refl _⟩
        | true =>
          rw [hh] at k53 hw
          cases ht : d.tail with
          | false =>
            rw [ht] at hw Htl
            obtain rfl : was = false := hw
            clear hh ht
            go_wp2_with fail
            (with_reducible refine Htl.out.mono ?_)
            rintro e w5 ⟨rfl, hg5⟩
            go_wp2_with fail
            go_meet
            exact ⟨rfl, hg5⟩
          | true =>
            rw [ht] at hw Htl
            have hw' : was = wholeB d b := hw
            clear hh ht hw
            go_wp2_with fail
            (with_reducible refine Htl.out.mono ?_)
            rintro e w5 ⟨rfl, hg5⟩
            have hn5 := H0.out.grow (Hg3.out.trans hg5)
            have hl5 := hn5.lt
            have hwb := nwhole_any hn5
            rw [← hw'] at hwb
            have Hwb := Lib.hid hwb
            have Hg5 := Lib.hid hg5
            clear hn5 hg5 hwb hw'
            go_wp2_with fail
            (with_reducible refine Hwb.out.mono ?_)
            rintro e w6 ⟨rfl, hg6⟩
            have Hg6 := Lib.hid (Hg5.out.trans hg6)
            clear hg6
            go_wp2_with fail
            go_meet
            exact ⟨rfl, Hg6.out⟩
      case rest =>
        obtain ⟨rfl, hg4⟩ := hcut
        obtain ⟨w4, hw4⟩ : ∃ W, W = wc := ⟨_, rfl⟩
        subst hw4
        have Hg4 := Lib.hid (Hg3.out.trans hg4)
        have Hcb4 := Lib.hid (hg4.heap Hcb3.out)
        clear hg4 Hcb3 Hg3 k53 hl3 Htl
        have Hq4 : Hid ((d.told && q3 && q4) = (nextD d c).told) := Lib.hid (by unfold nextD; rw [He4.out, Hq3.out])
        obtain ⟨nt, hnt⟩ : ∃ q, (d.told && q3 && q4) = q := ⟨_, rfl⟩
        obtain ⟨td, htd⟩ : ∃ q, d.told = q := ⟨_, rfl⟩
        have hi4 : ((c.epoch : Int) == (d.cfg.epoch : Int)) = q4 := Hq4b.out
        go_upto_region 5 with fail
        go_cut [9] from 85 to 119 (fun v wx => ∃ pb : Nat, v = .pointer (some ⟨pb, 0, none⟩) ∧ w4.heap.size ≤ pb ∧ wx.heap[pb]? = some (.cells #[.int .i64 (c.epoch : Int), .slice ca c.chain.length cc, .slice ta c.stores.length tc, .int .i64 (d.self : Int), .int .i64 (d.birth : Int), .bool true, .bool nt] 75 (0, 0)) ∧ Grow w4 wx)
        case first =>
          have HS : Hid (∀ W, Grow w4 W → nb < W.heap.size ∧ W.cell? ⟨nb, 0, none⟩ = some (.int .i64 (d.cfg.epoch : Int)) ∧ W.cell? ⟨nb, 3, none⟩ = some (.int .i64 (d.self : Int)) ∧ W.cell? ⟨nb, 4, none⟩ = some (.int .i64 (d.birth : Int)) ∧ W.cell? ⟨nb, 5, none⟩ = some (.bool q3) ∧ W.cell? ⟨nb, 6, none⟩ = some (.bool td) ∧
              w.heap.size < W.heap.size ∧ W.cell? ⟨w.heap.size, 0, none⟩ = some (.int .i64 (c.epoch : Int)) ∧ W.cell? ⟨w.heap.size, 1, none⟩ = some (.slice ca c.chain.length cc) ∧ W.cell? ⟨w.heap.size, 2, none⟩ = some (.slice ta c.stores.length tc)) := Lib.hid fun W hW => by
            have h1 := H0.out.grow (Hg4.out.trans hW)
            have h2 := hW.heap Hcb4.out
            exact ⟨h1.lt, h1.pl.c0, h1.pl.c3, h1.pl.c4, by rw [h1.pl.c5, Hq3.out], by rw [h1.pl.c6, htd], lt_of_getElem? h2, by simp [World.cell?, h2], by simp [World.cell?, h2], by simp [World.cell?, h2]⟩
          have Hnt : Hid ((td && q3 && q4) = nt) := Lib.hid (by rw [← htd]; exact hnt)
          clear hnt htd
          refine wp_region_pi (fun W => nb < W.heap.size ∧ W.cell? ⟨nb, 0, none⟩ = some (.int .i64 (d.cfg.epoch : Int)) ∧ W.cell? ⟨nb, 3, none⟩ = some (.int .i64 (d.self : Int)) ∧ W.cell? ⟨nb, 4, none⟩ = some (.int .i64 (d.birth : Int)) ∧ W.cell? ⟨nb, 5, none⟩ = some (.bool q3) ∧ W.cell? ⟨nb, 6, none⟩ = some (.bool td) ∧
              w.heap.size < W.heap.size ∧ W.cell? ⟨w.heap.size, 0, none⟩ = some (.int .i64 (c.epoch : Int)) ∧ W.cell? ⟨w.heap.size, 1, none⟩ = some (.slice ca c.chain.length cc) ∧ W.cell? ⟨w.heap.size, 2, none⟩ = some (.slice ta c.stores.length tc))
            (((List.range 35).map fun i => (i, false)) ++ [(35, true), (36, true)]) (by kernel_rfl) (by kernel_rfl) (fun c a d v w h => by cases d <;> exact h) (HS.out _ (Grow.drew w4)) ?_
          simp only [List.range, List.range.loop, List.map, List.cons_append, List.nil_append]
          simp only [arrange, nth]
          have Hgd := Lib.hid (Grow.drew w4)
          generalize w4.drew = wd at *
          cases td with
          | false =>
            obtain rfl : nt = false := Hnt.out.symm
            repeat ((first | (apply wpPi_quiet; rfl; rintro W ⟨hl0, hW0, hW1, hW2, hW3, hW4, hl1, hW5, hW6, hW7⟩; go_simp; with_reducible rfl) | (apply wpPi_off; rfl)); simp only [putA, List.set])
            have hga := Grow.alloc wd (.cells #[.int .i64 0, .slice none 0 0, .slice none 0 0, .int .i64 0, .int .i64 0, .bool false, .bool false] 75)
            have Hfin := Lib.hid (put7_heap (heap_alloc_new wd (.cells #[.int .i64 0, .slice none 0 0, .slice none 0 0, .int .i64 0, .int .i64 0, .bool false, .bool false] 75)) (.int .i64 (c.epoch : Int)) (.slice ca c.chain.length cc) (.slice ta c.stores.length tc) (.int .i64 (d.self : Int)) (.int .i64 (d.birth : Int)) (.bool true) (.bool false))
            have Hgf := Lib.hid (put7_grow (g := wd.heap.size) (Hgd.out.trans hga) Hgd.out.size (.int .i64 (c.epoch : Int)) (.slice ca c.chain.length cc) (.slice ta c.stores.length tc) (.int .i64 (d.self : Int)) (.int .i64 (d.birth : Int)) (.bool true) (.bool false))
            have Hs1 := Lib.hid (HS.out _ (Hgd.out.trans hga))
            clear hga
            refine wpPi_act (by rfl) (fun K hK => ?_)
            go_simp
            refine hK _ _ ⟨Hs1.out, ?_⟩
            clear hK K
            try first | simp only [putA, List.set] | simp only [putN]
            have hnew := heap_alloc_new wd (.cells #[.int .i64 0, .slice none 0 0, .slice none 0 0, .int .i64 0, .int .i64 0, .bool false, .bool false] 75)
            generalize hpb : wd.heap.size = pb at *
            generalize wd.alloc (.cells #[.int .i64 0, .slice none 0 0, .slice none 0 0, .int .i64 0, .int .i64 0, .bool false, .bool false] 75) = we at *
            have r0 : we.cell? ⟨pb, 0, none⟩ = some (.int .i64 0) := by simp [World.cell?, hnew]
            have r1 : we.cell? ⟨pb, 1, none⟩ = some (.slice none 0 0) := by simp [World.cell?, hnew]
            have r2 : we.cell? ⟨pb, 2, none⟩ = some (.slice none 0 0) := by simp [World.cell?, hnew]
            have r3 : we.cell? ⟨pb, 3, none⟩ = some (.int .i64 0) := by simp [World.cell?, hnew]
            have r4 : we.cell? ⟨pb, 4, none⟩ = some (.int .i64 0) := by simp [World.cell?, hnew]
            have r5 : we.cell? ⟨pb, 5, none⟩ = some (.bool false) := by simp [World.cell?, hnew]
            have r6 : we.cell? ⟨pb, 6, none⟩ = some (.bool false) := by simp [World.cell?, hnew]
            have f0 := frz hnew 0
            have f1 := frz hnew 1
            have f2 := frz hnew 2
            have f3 := frz hnew 3
            have f4 := frz hnew 4
            have f5 := frz hnew 5
            have f6 := frz hnew 6
            have lpb : pb < we.heap.size := lt_of_getElem? hnew
            have hpbs : w4.heap.size ≤ pb := by rw [← hpb]; exact Hgd.out.size
            clear hnew hpb
            refine wpPi_act (by rfl) (fun K hK => ?_)
            go_simp
            refine hK _ _ ⟨HS.out _ Hgf.out, ?_⟩
            clear hK K
            try first | simp only [putA, List.set] | simp only [putN]
            refine wpPi_nil ?_
            go_wp2_with fail
            go_meet
            exact ⟨_, rfl, hpbs, Hfin.out, Hgf.out⟩
          | true =>
            cases q3 with
            | false =>
              obtain rfl : nt = false := Hnt.out.symm
              repeat ((first | (apply wpPi_quiet; rfl; rintro W ⟨hl0, hW0, hW1, hW2, hW3, hW4, hl1, hW5, hW6, hW7⟩; go_simp; with_reducible rfl) | (apply wpPi_off; rfl)); simp only [putA, List.set])
              have hga := Grow.alloc wd (.cells #[.int .i64 0, .slice none 0 0, .slice none 0 0, .int .i64 0, .int .i64 0, .bool false, .bool false] 75)
              have Hfin := Lib.hid (put7_heap (heap_alloc_new wd (.cells #[.int .i64 0, .slice none 0 0, .slice none 0 0, .int .i64 0, .int .i64 0, .bool false, .bool false] 75)) (.int .i64 (c.epoch : Int)) (.slice ca c.chain.length cc) (.slice ta c.stores.length tc) (.int .i64 (d.self : Int)) (.int .i64 (d.birth : Int)) (.bool true) (.bool false))
              have Hgf := Lib.hid (put7_grow (g := wd.heap.size) (Hgd.out.trans hga) Hgd.out.size (.int .i64 (c.epoch : Int)) (.slice ca c.chain.length cc) (.slice ta c.stores.length tc) (.int .i64 (d.self : Int)) (.int .i64 (d.birth : Int)) (.bool true) (.bool false))
              have Hs1 := Lib.hid (HS.out _ (Hgd.out.trans hga))
              clear hga
              refine wpPi_act (by rfl) (fun K hK => ?_)
              go_simp
              refine hK _ _ ⟨Hs1.out, ?_⟩
              clear hK K
              try first | simp only [putA, List.set] | simp only [putN]
              have hnew := heap_alloc_new wd (.cells #[.int .i64 0, .slice none 0 0, .slice none 0 0, .int .i64 0, .int .i64 0, .bool false, .bool false] 75)
              generalize hpb : wd.heap.size = pb at *
              generalize wd.alloc (.cells #[.int .i64 0, .slice none 0 0, .slice none 0 0, .int .i64 0, .int .i64 0, .bool false, .bool false] 75) = we at *
              have r0 : we.cell? ⟨pb, 0, none⟩ = some (.int .i64 0) := by simp [World.cell?, hnew]
              have r1 : we.cell? ⟨pb, 1, none⟩ = some (.slice none 0 0) := by simp [World.cell?, hnew]
              have r2 : we.cell? ⟨pb, 2, none⟩ = some (.slice none 0 0) := by simp [World.cell?, hnew]
              have r3 : we.cell? ⟨pb, 3, none⟩ = some (.int .i64 0) := by simp [World.cell?, hnew]
              have r4 : we.cell? ⟨pb, 4, none⟩ = some (.int .i64 0) := by simp [World.cell?, hnew]
              have r5 : we.cell? ⟨pb, 5, none⟩ = some (.bool false) := by simp [World.cell?, hnew]
              have r6 : we.cell? ⟨pb, 6, none⟩ = some (.bool false) := by simp [World.cell?, hnew]
              have f0 := frz hnew 0
              have f1 := frz hnew 1
              have f2 := frz hnew 2
              have f3 := frz hnew 3
              have f4 := frz hnew 4
              have f5 := frz hnew 5
              have f6 := frz hnew 6
              have lpb : pb < we.heap.size := lt_of_getElem? hnew
              have hpbs : w4.heap.size ≤ pb := by rw [← hpb]; exact Hgd.out.size
              clear hnew hpb
              refine wpPi_act (by rfl) (fun K hK => ?_)
              go_simp
              refine hK _ _ ⟨HS.out _ Hgf.out, ?_⟩
              clear hK K
              try first | simp only [putA, List.set] | simp only [putN]
              refine wpPi_nil ?_
              go_wp2_with fail
              go_meet
              exact ⟨_, rfl, hpbs, Hfin.out, Hgf.out⟩
            | true =>
              cases q4 with
              | false =>
                obtain rfl : nt = false := Hnt.out.symm
                repeat ((first | (apply wpPi_quiet; rfl; rintro W ⟨hl0, hW0, hW1, hW2, hW3, hW4, hl1, hW5, hW6, hW7⟩; go_simp; with_reducible rfl) | (apply wpPi_off; rfl)); simp only [putA, List.set])
                have hga := Grow.alloc wd (.cells #[.int .i64 0, .slice none 0 0, .slice none 0 0, .int .i64 0, .int .i64 0, .bool false, .bool false] 75)
                have Hfin := Lib.hid (put7_heap (heap_alloc_new wd (.cells #[.int .i64 0, .slice none 0 0, .slice none 0 0, .int .i64 0, .int .i64 0, .bool false, .bool false] 75)) (.int .i64 (c.epoch : Int)) (.slice ca c.chain.length cc) (.slice ta c.stores.length tc) (.int .i64 (d.self : Int)) (.int .i64 (d.birth : Int)) (.bool true) (.bool false))
                have Hgf := Lib.hid (put7_grow (g := wd.heap.size) (Hgd.out.trans hga) Hgd.out.size (.int .i64 (c.epoch : Int)) (.slice ca c.chain.length cc) (.slice ta c.stores.length tc) (.int .i64 (d.self : Int)) (.int .i64 (d.birth : Int)) (.bool true) (.bool false))
                have Hs1 := Lib.hid (HS.out _ (Hgd.out.trans hga))
                clear hga
                refine wpPi_act (by rfl) (fun K hK => ?_)
                go_simp
                refine hK _ _ ⟨Hs1.out, ?_⟩
                clear hK K
                try first | simp only [putA, List.set] | simp only [putN]
                have hnew := heap_alloc_new wd (.cells #[.int .i64 0, .slice none 0 0, .slice none 0 0, .int .i64 0, .int .i64 0, .bool false, .bool false] 75)
                generalize hpb : wd.heap.size = pb at *
                generalize wd.alloc (.cells #[.int .i64 0, .slice none 0 0, .slice none 0 0, .int .i64 0, .int .i64 0, .bool false, .bool false] 75) = we at *
                have r0 : we.cell? ⟨pb, 0, none⟩ = some (.int .i64 0) := by simp [World.cell?, hnew]
                have r1 : we.cell? ⟨pb, 1, none⟩ = some (.slice none 0 0) := by simp [World.cell?, hnew]
                have r2 : we.cell? ⟨pb, 2, none⟩ = some (.slice none 0 0) := by simp [World.cell?, hnew]
                have r3 : we.cell? ⟨pb, 3, none⟩ = some (.int .i64 0) := by simp [World.cell?, hnew]
                have r4 : we.cell? ⟨pb, 4, none⟩ = some (.int .i64 0) := by simp [World.cell?, hnew]
                have r5 : we.cell? ⟨pb, 5, none⟩ = some (.bool false) := by simp [World.cell?, hnew]
                have r6 : we.cell? ⟨pb, 6, none⟩ = some (.bool false) := by simp [World.cell?, hnew]
                have f0 := frz hnew 0
                have f1 := frz hnew 1
                have f2 := frz hnew 2
                have f3 := frz hnew 3
                have f4 := frz hnew 4
                have f5 := frz hnew 5
                have f6 := frz hnew 6
                have lpb : pb < we.heap.size := lt_of_getElem? hnew
                have hpbs : w4.heap.size ≤ pb := by rw [← hpb]; exact Hgd.out.size
                clear hnew hpb
                refine wpPi_act (by rfl) (fun K hK => ?_)
                go_simp
                refine hK _ _ ⟨HS.out _ Hgf.out, ?_⟩
                clear hK K
                try first | simp only [putA, List.set] | simp only [putN]
                refine wpPi_nil ?_
                go_wp2_with fail
                go_meet
                exact ⟨_, rfl, hpbs, Hfin.out, Hgf.out⟩
              | true =>
                obtain rfl : nt = true := Hnt.out.symm
                repeat ((first | (apply wpPi_quiet; rfl; rintro W ⟨hl0, hW0, hW1, hW2, hW3, hW4, hl1, hW5, hW6, hW7⟩; go_simp; with_reducible rfl) | (apply wpPi_off; rfl)); simp only [putA, List.set])
                have hga := Grow.alloc wd (.cells #[.int .i64 0, .slice none 0 0, .slice none 0 0, .int .i64 0, .int .i64 0, .bool false, .bool false] 75)
                have Hfin := Lib.hid (put7_heap (heap_alloc_new wd (.cells #[.int .i64 0, .slice none 0 0, .slice none 0 0, .int .i64 0, .int .i64 0, .bool false, .bool false] 75)) (.int .i64 (c.epoch : Int)) (.slice ca c.chain.length cc) (.slice ta c.stores.length tc) (.int .i64 (d.self : Int)) (.int .i64 (d.birth : Int)) (.bool true) (.bool true))
                have Hgf := Lib.hid (put7_grow (g := wd.heap.size) (Hgd.out.trans hga) Hgd.out.size (.int .i64 (c.epoch : Int)) (.slice ca c.chain.length cc) (.slice ta c.stores.length tc) (.int .i64 (d.self : Int)) (.int .i64 (d.birth : Int)) (.bool true) (.bool true))
                have Hs1 := Lib.hid (HS.out _ (Hgd.out.trans hga))
                clear hga
                refine wpPi_act (by rfl) (fun K hK => ?_)
                go_simp
                refine hK _ _ ⟨Hs1.out, ?_⟩
                clear hK K
                try first | simp only [putA, List.set] | simp only [putN]
                have hnew := heap_alloc_new wd (.cells #[.int .i64 0, .slice none 0 0, .slice none 0 0, .int .i64 0, .int .i64 0, .bool false, .bool false] 75)
                generalize hpb : wd.heap.size = pb at *
                generalize wd.alloc (.cells #[.int .i64 0, .slice none 0 0, .slice none 0 0, .int .i64 0, .int .i64 0, .bool false, .bool false] 75) = we at *
                have r0 : we.cell? ⟨pb, 0, none⟩ = some (.int .i64 0) := by simp [World.cell?, hnew]
                have r1 : we.cell? ⟨pb, 1, none⟩ = some (.slice none 0 0) := by simp [World.cell?, hnew]
                have r2 : we.cell? ⟨pb, 2, none⟩ = some (.slice none 0 0) := by simp [World.cell?, hnew]
                have r3 : we.cell? ⟨pb, 3, none⟩ = some (.int .i64 0) := by simp [World.cell?, hnew]
                have r4 : we.cell? ⟨pb, 4, none⟩ = some (.int .i64 0) := by simp [World.cell?, hnew]
                have r5 : we.cell? ⟨pb, 5, none⟩ = some (.bool false) := by simp [World.cell?, hnew]
                have r6 : we.cell? ⟨pb, 6, none⟩ = some (.bool false) := by simp [World.cell?, hnew]
                have f0 := frz hnew 0
                have f1 := frz hnew 1
                have f2 := frz hnew 2
                have f3 := frz hnew 3
                have f4 := frz hnew 4
                have f5 := frz hnew 5
                have f6 := frz hnew 6
                have lpb : pb < we.heap.size := lt_of_getElem? hnew
                have hpbs : w4.heap.size ≤ pb := by rw [← hpb]; exact Hgd.out.size
                clear hnew hpb
                refine wpPi_act (by rfl) (fun K hK => ?_)
                go_simp
                refine hK _ _ ⟨HS.out _ Hgf.out, ?_⟩
                clear hK K
                try first | simp only [putA, List.set] | simp only [putN]
                refine wpPi_nil ?_
                go_wp2_with fail
                go_meet
                exact ⟨_, rfl, hpbs, Hfin.out, Hgf.out⟩
        case rest =>
          obtain ⟨pb, rfl, hpb, hpblk, hg5⟩ := hcut
          obtain ⟨w5, hw5⟩ : ∃ W, W = wc := ⟨_, rfl⟩
          subst hw5
          have Hg5 := Lib.hid (Hg4.out.trans hg5)
          have Hcb5 := Lib.hid (hg5.heap Hcb4.out)
          have Hpb := Lib.hid hpblk
          have hpw : w.heap.size < pb := by have := lt_of_getElem? Hcb4.out; omega
          clear hg5 hpblk Hcb4 hi4
          have Hnt : Hid (nt = (nextD d c).told) := Lib.hid (by rw [← hnt]; exact Hq4.out)
          clear hnt htd
          go_upto_region 6 with fail
          have HS : Hid (∀ W, Grow w5 W → w.heap.size < W.heap.size ∧ W.cell? ⟨w.heap.size, 1, none⟩ = some (.slice ca c.chain.length cc) ∧ W.cell? ⟨w.heap.size, 2, none⟩ = some (.slice ta c.stores.length tc)) := Lib.hid fun W hW => by
            have h2 := hW.heap Hcb5.out
            exact ⟨lt_of_getElem? h2, by simp [World.cell?, h2], by simp [World.cell?, h2]⟩
          refine wp_region_late (fun W => w.heap.size < W.heap.size ∧ W.cell? ⟨w.heap.size, 1, none⟩ = some (.slice ca c.chain.length cc) ∧ W.cell? ⟨w.heap.size, 2, none⟩ = some (.slice ta c.stores.length tc))
            [(0, false), (1, false), (3, false), (4, false), (2, true), (5, true), (6, false), (7, false)] [8, 9, 10, 11] #[true, true, true, true, true, true, true, true, false, false, false, false] 4 (by kernel_rfl) (by kernel_rfl) (fun c a d v w h => by cases d <;> exact h) (HS.out _ (Grow.drew w5)) ?_
          simp only [arrange, nth]
          repeat ((first | (apply wpPi_quiet; rfl; rintro W ⟨hl0, hW0, hW1⟩; go_simp; with_reducible rfl) | (apply wpPi_off; rfl)); simp only [putA, List.set])
          refine wpPi_call (by rfl) (by go_simp) (cloneM_any ((HC0.out.grow (Hg5.out.trans (Grow.drew w5))).chain) (by have := Hok.out.len; omega)) ?_
          rintro e w6 ⟨ncv, rfl, hncv, hg6⟩
          have Hg6 := Lib.hid ((Grow.drew w5).trans hg6)
          refine ⟨_, rfl, HS.out _ Hg6.out, ?_⟩
          clear hg6
          try first | simp only [putA, List.set] | simp only [putN]
          refine wpPi_call (by rfl) (by go_simp) (cloneI_any ((HC0.out.grow (Hg5.out.trans Hg6.out)).stores) (by have := Hok.out.stl; omega)) ?_
          rintro e w7 ⟨nsv, rfl, hnsv, hg7⟩
          have Hg7 := Lib.hid (Hg6.out.trans hg7)
          refine ⟨_, rfl, HS.out _ Hg7.out, ?_⟩
          have Hncv := Lib.hid ((hncv.mono (M := fun x => w5.heap.size ≤ x) (fun x hx _ => by have := (Grow.drew w5).size; omega)).grow hg7)
          have Hnsv := Lib.hid (hnsv.mono (M := fun x => w5.heap.size ≤ x) (fun x hx _ => by have := Hg6.out.size; omega))
          obtain ⟨na, nc, rfl⟩ := hncv.slice
          obtain ⟨oa, oc, rfl⟩ := hnsv.slice
          clear hg7 hncv hnsv Hg6
          try first | simp only [putA, List.set] | simp only [putN]
          repeat ((first | (apply wpPi_quiet; rfl; rintro W ⟨hl0, hW0, hW1⟩; go_simp; with_reducible rfl) | (apply wpPi_off; rfl)); simp only [putA, List.set])
          refine wpPi_nil ?_
          have hb7 := Hg7.out.heap Hpb.out
          have r1 : w7.cell? ⟨pb, 1, none⟩ = some (.slice ca c.chain.length cc) := by simp [World.cell?, hb7]
          have r2 : w7.cell? ⟨pb, 2, none⟩ = some (.slice ta c.stores.length tc) := by simp [World.cell?, hb7]
          have f1 := frz hb7 1
          have f2 := frz hb7 2
          have lpb : pb < w7.heap.size := lt_of_getElem? hb7
          refine lateQ_act (i := 8) (by kernel_rfl) rfl (by rfl) (fun K hK => ?_)
          go_simp
          refine hK _ _ ?_
          clear hK K
          try first | simp only [putA, List.set] | simp only [putN]
          refine lateQ_act (i := 9) (by kernel_rfl) rfl (by rfl) (fun K hK => ?_)
          go_simp
          refine hK _ _ ?_
          clear hK K
          try first | simp only [putA, List.set] | simp only [putN]
          refine lateQ_act (i := 10) (by kernel_rfl) rfl (by rfl) (fun K hK => ?_)
          go_simp
          refine hK _ _ ?_
          clear hK K
          try first | simp only [putA, List.set] | simp only [putN]
          refine lateQ_act (i := 11) (by kernel_rfl) rfl (by rfl) (fun K hK => ?_)
          go_simp
          refine hK _ _ ?_
          clear hK K
          try first | simp only [putA, List.set] | simp only [putN]
          refine lateQ_nil (by kernel_rfl) ?_
          have hb8 := setCell_heap (setCell_heap hb7 1 (.slice na c.chain.length nc)) 2 (.slice oa c.stores.length oc)
          have hb8' : ((w7.setCell ⟨pb, 1, none⟩ (.slice na c.chain.length nc)).setCell ⟨pb, 2, none⟩ (.slice oa c.stores.length oc)).heap[pb]? = some (.cells #[.int .i64 (c.epoch : Int), .slice na c.chain.length nc, .slice oa c.stores.length oc, .int .i64 (d.self : Int), .int .i64 (d.birth : Int), .bool true, .bool nt] 75 (0, 0)) := by simpa using hb8
          have hg8 : Grow w ((w7.setCell ⟨pb, 1, none⟩ (.slice na c.chain.length nc)).setCell ⟨pb, 2, none⟩ (.slice oa c.stores.length oc)) := ((Hg5.out.trans Hg7.out).setCell (p := ⟨pb, 1, none⟩) (Nat.le_of_lt hpw) _).setCell (p := ⟨pb, 2, none⟩) (Nat.le_of_lt hpw) _
          have hcb8 : ((w7.setCell ⟨pb, 1, none⟩ (.slice na c.chain.length nc)).setCell ⟨pb, 2, none⟩ (.slice oa c.stores.length oc)).heap[w.heap.size]? = some (.cells #[.int .i64 (c.epoch : Int), .slice ca c.chain.length cc, .slice ta c.stores.length tc] 59 (0, 0)) := by
            have hne : w.heap.size ≠ pb := by omega
            rw [Below.heap_setCell _ _ _ _ hne, Below.heap_setCell _ _ _ _ hne]
            exact Hg7.out.heap Hcb5.out
          have hlpb5 : pb < w5.heap.size := lt_of_getElem? Hpb.out
          have hk8 : Kp (fun x => w5.heap.size ≤ x) w7 ((w7.setCell ⟨pb, 1, none⟩ (.slice na c.chain.length nc)).setCell ⟨pb, 2, none⟩ (.slice oa c.stores.length oc)) := ⟨by simp, fun x hx _ => by
            have hne : x ≠ pb := by omega
            rw [Below.heap_setCell _ _ _ _ hne, Below.heap_setCell _ _ _ _ hne]⟩
          have hcr8 : CfgR (fun x => w5.heap.size ≤ x) ((w7.setCell ⟨pb, 1, none⟩ (.slice na c.chain.length nc)).setCell ⟨pb, 2, none⟩ (.slice oa c.stores.length oc)) (.slice na c.chain.length nc) (.slice oa c.stores.length oc) c := ⟨Hncv.out.kp hk8, Hnsv.out.kp hk8, Hok.out.len, Hok.out.stl⟩
          have Hb8 := Lib.hid hb8'
          have Hg8 := Lib.hid hg8
          have Hcb8 := Lib.hid hcb8
          have Hcr8 := Lib.hid hcr8
          have hz5 : w.heap.size ≤ w5.heap.size := Hg5.out.size
          clear hb8 hb8' hg8 hcb8 hk8 hcr8 r1 r2 f1 f2 lpb hb7 Hncv Hnsv Hg7 Hcb5 Hg5 Hpb
          generalize (w7.setCell ⟨pb, 1, none⟩ (.slice na c.chain.length nc)).setCell ⟨pb, 2, none⟩ (.slice oa c.stores.length oc) = w8 at *
          have Hpl : Hid (∀ W, Grow w8 W → PlAt (fun x => w5.heap.size ≤ x) W pb (nextD d c) (.slice na c.chain.length nc) (.slice oa c.stores.length oc)) := Lib.hid fun W hW => by
            have hb := hW.heap Hb8.out
            exact ⟨lt_of_getElem? hb, by simp [World.cell?, hb, nextD], by simp [World.cell?, hb], by simp [World.cell?, hb], by simp [World.cell?, hb, nextD], by simp [World.cell?, hb, nextD], by simp [World.cell?, hb, nextD], by rw [← Hnt.out]; simp [World.cell?, hb], Hcr8.out.grow hW⟩
          obtain ⟨⟨mn, mb, mw⟩, hM⟩ : ∃ M, (nextD d c).member.getD zeroM = M := ⟨_, rfl⟩
          obtain ⟨is, his⟩ : ∃ s, (nextD d c).member.isSome = s := ⟨_, rfl⟩
          have Hpm := Lib.hid (om_split (pmember_any (Hpl.out w8 (Grow.refl _))) hM his)
          have HM := Lib.hid hM
          have His := Lib.hid his
          have lpb8 : pb < w8.heap.size := lt_of_getElem? Hb8.out
          clear hM his
          go_wp2_with fail
          (with_reducible refine Hpm.out.mono ?_)
          rintro e w9 ⟨rfl, hg9⟩
          have hmb := heap_alloc_new w9 (.cells #[.int .i64 (mn : Int), .int .i64 (mb : Int), .bool mw] 71)
          have Hg10 := Lib.hid (hg9.trans (Grow.alloc w9 (.cells #[.int .i64 (mn : Int), .int .i64 (mb : Int), .bool mw] 71)))
          have Hmb := Lib.hid hmb
          have hg9s := hg9.size
          clear hmb hg9 Hpm
          go_upto_region 8 with fail
          generalize w9.alloc (.cells #[.int .i64 (mn : Int), .int .i64 (mb : Int), .bool mw] 71) = wa at *
          have hmbl : w.heap.size ≤ w9.heap.size := Nat.le_trans Hg8.out.size hg9s
          generalize w9.heap.size = mblk at *
          have hcba := Hg10.out.heap Hcb8.out
          have s0 : wa.cell? ⟨w.heap.size, 0, none⟩ = some (.int .i64 (c.epoch : Int)) := by simp [World.cell?, hcba]
          have ls : w.heap.size < wa.heap.size := lt_of_getElem? hcba
          have Hcba := Lib.hid hcba
          have hna := H0.out.grow (Hg8.out.trans Hg10.out)
          have la := hna.lt
          clear hcba hna
          obtain ⟨gt, hgt⟩ : ∃ q, decide (b.epoch < c.epoch) = q := ⟨_, rfl⟩
          have Hgt := Lib.hid hgt
          have hgi : decide ((b.epoch : Int) < (c.epoch : Int)) = gt := by rw [← hgt]; simp
          have hmk : marks d b c = (is && gt) := by unfold marks; rw [His.out, hgt]
          have Hmk := Lib.hid hmk
          clear hmk
          obtain ⟨mk, hmk⟩ : ∃ q, (is && gt) = q := ⟨_, rfl⟩
          rw [hmk] at Hmk
          go_cut [140] from 134 to 140 (fun v wx => v = .bool mk ∧ wx = wa)
          case first =>
            cases is <;> cases gt
            all_goals
              obtain rfl := hmk
              go_wp2_with fail
              go_meet
              exact ⟨rfl, rfl⟩
          case rest =>
            obtain ⟨rfl, hwx⟩ := hcut
            have hwx' := hwx.symm
            subst hwx'
            clear hwx hgi
            have Hmkd := Lib.hid hmk
            clear hmk
            have hreg : Hid (∀ W, Grow wa W → nb < W.heap.size ∧ W.cell? ⟨nb, 7, none⟩ = some (.iface 48 (.pointer (some ⟨bb, 0, none⟩))) ∧ w.heap.size < W.heap.size ∧ W.cell? ⟨w.heap.size, 0, none⟩ = some (.int .i64 (c.epoch : Int)) ∧ mblk < W.heap.size ∧ W.cell? ⟨mblk, 2, none⟩ = some (.bool mw)) := Lib.hid fun W hW => by
              have h1 := H0.out.grow (Hg8.out.trans (Hg10.out.trans hW))
              have h2 := hW.heap Hcba.out
              have h3 := hW.heap Hmb.out
              exact ⟨h1.lt, h1.m, lt_of_getElem? h2, by simp [World.cell?, h2], lt_of_getElem? h3, by simp [World.cell?, h3]⟩
            by_cases hmf : mk = true ∧ b.full = true
            · obtain ⟨rfl, hfu⟩ := hmf
              have Hq : Hid (OutPost f N w nb bb cv O (.returned (.tuple #[.slice none 0 0, .slice none 0 0])) wa.drew) := Lib.hid (by
                rw [← HO.out]; unfold confM; rw [Hst.out, if_neg (by decide), Hmk.out, hfu, if_pos (by decide)]
                exact OutPost.same H0.out ((Hg8.out.trans Hg10.out).trans (Grow.drew wa)))
              go_wp2_with fail
              have hnd := H0.out.grow ((Hg8.out.trans Hg10.out).trans (Grow.drew wa))
              refine wp_region_row (fun W => nb < W.heap.size ∧ W.cell? ⟨nb, 7, none⟩ = some (.iface 48 (.pointer (some ⟨bb, 0, none⟩))) ∧ w.heap.size < W.heap.size ∧ W.cell? ⟨w.heap.size, 0, none⟩ = some (.int .i64 (c.epoch : Int)) ∧ mblk < W.heap.size ∧ W.cell? ⟨mblk, 2, none⟩ = some (.bool mw)) [8] (by kernel_rfl) (fun c a d v w h => by cases d <;> exact h) (hreg.out _ (Grow.drew wa)) ?_
              have Hrd := Lib.hid (hreg.out _ (Grow.drew wa))
              generalize wa.drew = wd at *
              simp only [inRow]
              repeat ((first | (apply wpPi_quiet; rfl; rintro W ⟨hl0, hW0, hl1, hW1, hl2, hW2⟩; go_simp; with_reducible rfl) | (apply wpPi_off; rfl)); simp only [putA, List.set])
              refine wpPi_call (by rfl) (by go_simp) (mark_full hnd.box hfu (ep := c.epoch) mw) ?_
              rintro e wb ⟨rfl, hw1⟩
              have hw2 := hw1.symm
              subst hw2
              clear hw1 hnd
              refine ⟨_, rfl, Hrd.out, ?_⟩
              try first | simp only [putA, List.set] | simp only [putN]
              repeat ((first | (apply wpPi_quiet; rfl; rintro W ⟨hl0, hW0, hl1, hW1, hl2, hW2⟩; go_simp; with_reducible rfl) | (apply wpPi_off; rfl)); simp only [putA, List.set])
              refine wpPi_nil ?_
              go_wp2
              go_ret2
              exact Hq.out
            · have hmb : Hid (markB d b c = if mk = true then b.mark c.epoch mw else b) := Lib.hid (by
                have h1 := HM.out; have h2 := His.out; have h3 := Hgt.out; have h4 := Hmkd.out
                unfold markB
                cases ho : (nextD d c).member with
                | none => rw [ho] at h2; cases h2; cases h4; rfl
                | some m =>
                  rw [ho] at h1 h2; cases h1; cases h2
                  by_cases hlt : b.epoch < c.epoch
                  · have : gt = true := by rw [← h3]; simpa using hlt
                    subst this; cases h4; simp [hlt]
                  · have : gt = false := by rw [← h3]; simpa using hlt
                    subst this; cases h4; simp [hlt])
              have hco : Hid (confM d b c = (if ((nextD d c).tail && wholeB (nextD d c) (markB d b c) && !was) = true then ⟨nextD d c, keptB (markB d b c), beatM (nextD d c) (keptB (markB d b c)), keptC (markB d b c)⟩ else ⟨nextD d c, markB d b c, beatM (nextD d c) (markB d b c), []⟩)) := Lib.hid (by
                unfold confM
                rw [Hst.out, if_neg (by decide), Hmk.out]
                have : ¬ (mk && b.full) = true := by intro h; exact hmf (by simpa using h)
                rw [if_neg this]
                simp only [Hwas.out])
              go_upto_if 140 with fail
              go_cut [] from 141 to 150 (fun wx => NdAt f N wx nb bb cv (.slice da d.cfg.chain.length dc) (.slice ea d.cfg.stores.length ec) d (markB d b c) ∧ Sep (FN nb bb cv) w wx (FN nb bb cv) ∧ Sep (FN nb bb cv) wa wx (FN nb bb cv))
              case first =>
                have hna := H0.out.grow (Hg8.out.trans Hg10.out)
                cases mk with
                | false =>
                  have hb' : markB d b c = b := hmb.out
                  have Hr : Hid (NdAt f N wa nb bb cv (.slice da d.cfg.chain.length dc) (.slice ea d.cfg.stores.length ec) d (markB d b c) ∧ Sep (FN nb bb cv) w wa (FN nb bb cv) ∧ Sep (FN nb bb cv) wa wa (FN nb bb cv)) := Lib.hid ⟨by rw [hb']; exact hna, Sep.ofGrow (Hg8.out.trans Hg10.out), Sep.refl _ _⟩
                  clear hna hb'
                  go_wp2_with fail
                  go_meet
                  exact Hr.out
                | true =>
                  have hfu : b.full = false := by cases hq : b.full with
                    | false => rfl
                    | true => exact absurd ⟨rfl, hq⟩ hmf
                  have hb' : markB d b c = b.mark c.epoch mw := hmb.out
                  have Hb' := Lib.hid hb'
                  clear hna hb'
                  go_wp2_with fail
                  have hnd := H0.out.grow ((Hg8.out.trans Hg10.out).trans (Grow.drew wa))
                  refine wp_region_row (fun W => nb < W.heap.size ∧ W.cell? ⟨nb, 7, none⟩ = some (.iface 48 (.pointer (some ⟨bb, 0, none⟩))) ∧ w.heap.size < W.heap.size ∧ W.cell? ⟨w.heap.size, 0, none⟩ = some (.int .i64 (c.epoch : Int)) ∧ mblk < W.heap.size ∧ W.cell? ⟨mblk, 2, none⟩ = some (.bool mw)) [8] (by kernel_rfl) (fun c a d v w h => by cases d <;> exact h) (hreg.out _ (Grow.drew wa)) ?_
                  have Hrd := Lib.hid (hreg.out _ (Grow.drew wa))
                  have Hgd := Lib.hid (Grow.drew wa)
                  generalize wa.drew = wd at *
                  simp only [inRow]
                  repeat ((first | (apply wpPi_quiet; rfl; rintro W ⟨hl0, hW0, hl1, hW1, hl2, hW2⟩; go_simp; with_reducible rfl) | (apply wpPi_off; rfl)); simp only [putA, List.set])
                  refine wpPi_call (by rfl) (by go_simp) (mark_ok hnd.box hfu (ep := c.epoch) mw hep) ?_
                  rintro e wb ⟨rfl, hbx, hsx⟩
                  obtain ⟨hnb, hsb⟩ := hnd.turn0 hbx hsx
                  have hSb : nb < wb.heap.size ∧ wb.cell? ⟨nb, 7, none⟩ = some (.iface 48 (.pointer (some ⟨bb, 0, none⟩))) ∧ w.heap.size < wb.heap.size ∧ wb.cell? ⟨w.heap.size, 0, none⟩ = some (.int .i64 (c.epoch : Int)) ∧ mblk < wb.heap.size ∧ wb.cell? ⟨mblk, 2, none⟩ = some (.bool mw) := by
                    obtain ⟨_, _, g1, g2, g3, g4⟩ := Hrd.out
                    have hF : ∀ x, w.heap.size ≤ x → ¬ FN nb bb cv x := fun x hx hF => by have := H0.out.flt hF; omega
                    have x1 := hsb.out _ g1 (hF _ (Nat.le_refl _))
                    have x2 := hsb.out mblk g3 (hF _ hmbl)
                    exact ⟨hnb.lt, hnb.m, Nat.lt_of_lt_of_le g1 hsb.size, by rw [← g2]; simp [World.cell?, x1], Nat.lt_of_lt_of_le g3 hsb.size, by rw [← g4]; simp [World.cell?, x2]⟩
                  refine ⟨_, rfl, hSb, ?_⟩
                  have Hr : Hid (NdAt f N wb nb bb cv (.slice da d.cfg.chain.length dc) (.slice ea d.cfg.stores.length ec) d (markB d b c) ∧ Sep (FN nb bb cv) w wb (FN nb bb cv) ∧ Sep (FN nb bb cv) wa wb (FN nb bb cv)) := Lib.hid ⟨by rw [Hb'.out]; exact hnb, (Sep.ofGrow ((Hg8.out.trans Hg10.out).trans Hgd.out)).trans hsb, (Sep.ofGrow Hgd.out).trans hsb⟩
                  clear hnd hbx hsx hnb hsb hSb
                  try first | simp only [putA, List.set] | simp only [putN]
                  repeat ((first | (apply wpPi_quiet; rfl; rintro W ⟨hl0, hW0, hl1, hW1, hl2, hW2⟩; go_simp; with_reducible rfl) | (apply wpPi_off; rfl)); simp only [putA, List.set])
                  refine wpPi_nil ?_
                  go_wp2_with fail
                  go_meet
                  exact Hr.out
              case rest =>
                obtain ⟨hn6, hs6, hsa⟩ := hcut
                obtain ⟨wb, hwb⟩ : ∃ W, W = wc := ⟨_, rfl⟩
                subst hwb
                have hpa := Hg10.out.heap Hb8.out
                have hpF : ¬ FN nb bb cv pb := fun hF => by have := H0.out.flt hF; omega
                have hpb6 : wb.heap[pb]? = some (.cells #[.int .i64 (c.epoch : Int), .slice na c.chain.length nc, .slice oa c.stores.length oc, .int .i64 (d.self : Int), .int .i64 (d.birth : Int), .bool true, .bool nt] 75 (0, 0)) := by
                  rw [hsa.out pb (lt_of_getElem? hpa) hpF]; exact hpa
                have hcr6 : CfgR (Nw N w (FN nb bb cv)) wb (.slice na c.chain.length nc) (.slice oa c.stores.length oc) (nextD d c).cfg :=
                  ((Hcr8.out.grow Hg10.out).mono (M := Nw N w (FN nb bb cv)) (fun x hx _ => .inr ⟨by omega, fun hF => by have := H0.out.flt hF; omega⟩)).kp (Kp.ofSep hsa (nw_apart H0.out.apart (fun x hx => .inl hx)))
                have hpl7 : NdAt f (Nw N w (FN nb bb cv)) (put7 wb nb (.int .i64 (c.epoch : Int)) (.slice na c.chain.length nc) (.slice oa c.stores.length oc) (.int .i64 (d.self : Int)) (.int .i64 (d.birth : Int)) (.bool true) (.bool nt)) nb bb cv (.slice na c.chain.length nc) (.slice oa c.stores.length oc) (nextD d c) (markB d b c) := by
                  rw [Hnt.out]; exact hn6.place (d' := nextD d c) hcr6 (nw_apart H0.out.apart (fun x hx => .inl hx)) (fun x hx hl => nw_in H0.out x hx) Hok.out.ep H0.out.slf H0.out.bir
                have hs7 := hs6.trans (put7_sep wb (F := FN nb bb cv) (.inl rfl) (.int .i64 (c.epoch : Int)) (.slice na c.chain.length nc) (.slice oa c.stores.length oc) (.int .i64 (d.self : Int)) (.int .i64 (d.birth : Int)) (.bool true) (.bool nt))
                obtain ⟨wz, hwz⟩ : ∃ W, put7 wb nb (.int .i64 (c.epoch : Int)) (.slice na c.chain.length nc) (.slice oa c.stores.length oc) (.int .i64 (d.self : Int)) (.int .i64 (d.birth : Int)) (.bool true) (.bool nt) = W := ⟨_, rfl⟩
                rw [hwz] at hpl7 hs7
                have Hwz := Lib.hid (show ((((((wb.setCell ⟨nb, 0, none⟩ (.int .i64 (c.epoch : Int))).setCell ⟨nb, 1, none⟩ (.slice na c.chain.length nc)).setCell ⟨nb, 2, none⟩ (.slice oa c.stores.length oc)).setCell ⟨nb, 3, none⟩ (.int .i64 (d.self : Int))).setCell ⟨nb, 4, none⟩ (.int .i64 (d.birth : Int))).setCell ⟨nb, 5, none⟩ (.bool true)).setCell ⟨nb, 6, none⟩ (.bool nt) = wz from hwz)
                clear hwz
                have r0 : wb.cell? ⟨pb, 0, none⟩ = some (.int .i64 (c.epoch : Int)) := by simp [World.cell?, hpb6]
                have r1 : wb.cell? ⟨pb, 1, none⟩ = some (.slice na c.chain.length nc) := by simp [World.cell?, hpb6]
                have r2 : wb.cell? ⟨pb, 2, none⟩ = some (.slice oa c.stores.length oc) := by simp [World.cell?, hpb6]
                have r3 : wb.cell? ⟨pb, 3, none⟩ = some (.int .i64 (d.self : Int)) := by simp [World.cell?, hpb6]
                have r4 : wb.cell? ⟨pb, 4, none⟩ = some (.int .i64 (d.birth : Int)) := by simp [World.cell?, hpb6]
                have r5 : wb.cell? ⟨pb, 5, none⟩ = some (.bool true) := by simp [World.cell?, hpb6]
                have r6 : wb.cell? ⟨pb, 6, none⟩ = some (.bool nt) := by simp [World.cell?, hpb6]
                have lpb6 : pb < wb.heap.size := lt_of_getElem? hpb6
                have n0 := hn6.blk
                have ln6 := hn6.lt
                have s0' : wb.cell? ⟨nb, 0, none⟩ = some (.int .i64 (d.cfg.epoch : Int)) := by simp [World.cell?, n0]
                have s1' : wb.cell? ⟨nb, 1, none⟩ = some (.slice da d.cfg.chain.length dc) := by simp [World.cell?, n0]
                have s2' : wb.cell? ⟨nb, 2, none⟩ = some (.slice ea d.cfg.stores.length ec) := by simp [World.cell?, n0]
                have s3' : wb.cell? ⟨nb, 3, none⟩ = some (.int .i64 (d.self : Int)) := by simp [World.cell?, n0]
                have s4' : wb.cell? ⟨nb, 4, none⟩ = some (.int .i64 (d.birth : Int)) := by simp [World.cell?, n0]
                have s5' : wb.cell? ⟨nb, 5, none⟩ = some (.bool d.has) := by simp [World.cell?, n0]
                have s6' : wb.cell? ⟨nb, 6, none⟩ = some (.bool d.told) := by simp [World.cell?, n0]
                have f0 := frz n0 0
                have f1 := frz n0 1
                have f2 := frz n0 2
                have f3 := frz n0 3
                have f4 := frz n0 4
                have f5 := frz n0 5
                have f6 := frz n0 6
                have Hn7 := Lib.hid hpl7
                have Hs7 := Lib.hid hs7
                have Hcr6 := Lib.hid hcr6
                clear hcr6 hpl7 hs7 n0 hpb6 hpF hpa hn6 hs6 hsa s0 ls la
                go_upto_region 12 with fail
                rw [Hwz.out]
                clear Hwz
                clear r0 r1 r2 r3 r4 r5 r6 lpb6 ln6 s0' s1' s2' s3' s4' s5' s6' f0 f1 f2 f3 f4 f5 f6 Hcr6
                have hn9 := Hn7.out
                have ln9 := hn9.lt
                obtain ⟨tl, htl⟩ : ∃ q, (nextD d c).tail = q := ⟨_, rfl⟩
                obtain ⟨wh, hwh⟩ : ∃ q, wholeB (nextD d c) (markB d b c) = q := ⟨_, rfl⟩
                have Ht9 := Lib.hid (ptail_eq hn9 htl)
                have Hwh := Lib.hid hwh
                have Hco : Hid (O = if (tl && wh && !was) = true then ⟨nextD d c, keptB (markB d b c), beatM (nextD d c) (keptB (markB d b c)), keptC (markB d b c)⟩ else ⟨nextD d c, markB d b c, beatM (nextD d c) (markB d b c), []⟩) := Lib.hid (by
                  rw [← HO.out, hco.out, htl, hwh])
                clear hn9 htl hwh hco
                go_upto_region 13 with fail
                go_cut [166] from 155 to 166 (fun v wx => v = .bool (tl && wh && !was) ∧ Grow wz wx)
                case first =>
                  cases tl with
                  | false =>
                    go_wp2_with fail
                    (with_reducible refine Ht9.out.mono ?_)
                    rintro e w5 ⟨rfl, hg5⟩
                    go_wp2_with fail
                    go_meet
                    exact ⟨rfl, hg5⟩
                  | true =>
                    go_wp2_with fail
                    (with_reducible refine Ht9.out.mono ?_)
                    rintro e w5 ⟨rfl, hg5⟩
                    have hl5 := (Hn7.out.grow hg5).lt
                    have Hw5 := Lib.hid (nwhole_eq (Hn7.out.grow hg5) Hwh.out)
                    have Hg5 := Lib.hid hg5
                    clear hg5
                    go_wp2_with fail
                    (with_reducible refine Hw5.out.mono ?_)
                    rintro e w6 ⟨rfl, hg6⟩
                    have Hg6 := Lib.hid (Hg5.out.trans hg6)
                    clear hg6
                    cases wh <;> (go_wp2_with fail; go_meet; exact ⟨rfl, Hg6.out⟩)
                case rest =>
                  obtain ⟨rfl, hgx⟩ := hcut
                  obtain ⟨wy, hwy⟩ : ∃ W, W = wc := ⟨_, rfl⟩
                  subst hwy
                  obtain ⟨kq, hkq⟩ : ∃ q, (tl && wh && !was) = q := ⟨_, rfl⟩
                  rw [hkq] at Hco ⊢
                  have hny := Hn7.out.grow hgx
                  have hsy := Hs7.out.grow hgx
                  have Hny := Lib.hid hny
                  have Hsy := Lib.hid hsy
                  have Hky := Lib.hid (kept_any hny hf)
                  have lny := hny.lt
                  clear hny hsy hgx hkq Hn7 Hs7 Ht9 Hwh ln9
                  go_upto_if 166 with fail
                  go_cut [12] from 167 to 168 (fun v wx => ∃ cv', NdAt f (Nw N w (FN nb bb cv')) wx nb bb cv' (.slice na c.chain.length nc) (.slice oa c.stores.length oc) O.d O.b ∧ Sep (FN nb bb cv) w wx (FN nb bb cv') ∧ ComR f (Nw N w (FN nb bb cv')) wx v O.cs ∧ O.ms = beatM O.d O.b)
                  case first =>
                    cases kq with
                    | false =>
                      have hO := Hco.out
                      rw [if_neg (by decide)] at hO
                      subst hO
                      go_wp2_with fail
                      go_meet
                      exact ⟨cv, Hny.out, Hsy.out, comR_nil _ _, trivial⟩
                    | true =>
                      have hO := Hco.out
                      rw [if_pos rfl] at hO
                      subst hO
                      go_wp2_with fail
                      (with_reducible refine Hky.out.mono ?_)
                      rintro e w5 ⟨kv, rfl, hk1, hk2, hk3⟩
                      have hzy := Hsy.out.size
                      obtain ⟨ka, kc, rfl⟩ := hk1.slice
                      have Hk1 := Lib.hid (hk1.mono (M := Nw N w (FN nb bb cv)) (fun x hx _ => .inr ⟨by omega, fun hF => by have := H0.out.flt hF; omega⟩))
                      have Hk2 := Lib.hid hk2
                      have Hk3 := Lib.hid (Hsy.out.trans hk3)
                      clear hk1 hk2 hk3 Hky
                      go_wp2_with fail
                      go_meet
                      exact ⟨cv, Hk2.out, Hk3.out, Hk1.out, trivial⟩
                  case rest =>
                    obtain ⟨cv', hn, hs, hcc, hm⟩ := hcut
                    obtain ⟨we, hwe⟩ : ∃ W, W = wc := ⟨_, rfl⟩
                    subst hwe
                    obtain ⟨ka, kc, rfl⟩ := hcc.slice
                    have Hb9 := Lib.hid (beat_any hn hf)
                    have Hn := Lib.hid hn
                    have Hs := Lib.hid hs
                    have Hcc := Lib.hid hcc
                    have Hm := Lib.hid hm
                    have len9 := hn.lt
                    clear hn hs hcc hm
                    go_wp2_with fail
                    (with_reducible refine Hb9.out.mono ?_)
                    rintro e w5 ⟨mv, rfl, hm1, hg5⟩
                    have hze := Hs.out.size
                    obtain ⟨xa, xc, rfl⟩ := hm1.slice
                    have Hq : Hid (OutPost f N w nb bb cv O (.returned (.tuple #[.slice xa (beatM O.d O.b).length xc, .slice ka O.cs.length kc])) w5) := Lib.hid ⟨_, _, cv', _, _, rfl, Hn.out.grow hg5, Hs.out.grow hg5, by rw [Hm.out]; exact hm1.msgR.mono (fun x hx _ => .inr ⟨by omega, fun hF => by have := Hn.out.flt hF; omega⟩), Hcc.out.grow hg5⟩
                    clear hm1 hg5 Hb9
                    go_wp2
                    go_ret2
                    exact Hq.out
end
end Go.Proofs.Ytfchjoejdijjeaa
