/- Merged out of FD, FD2, FE: helpers. -/
import Derived.Test.YtfchjoejdijjeaaCS
import Derived.Laws.ResultCell
set_option linter.unusedSimpArgs false
set_option linter.unusedVariables false
/- The reference's master: a member is dropped. -/
namespace Go.Proofs.Ytfchjoejdijjeaa
open Go.RowKit Go.Gl Go.Wal Go.Ch Go.Shelf
section
variable {N : Nat → Prop} {w : World} {cv sv : Value} {c : Cfg}
abbrev nilC : Value := cfgV 0 (.slice none 0 0) (.slice none 0 0)
theorem erase_take {l : List Mem} {j k : Nat} {m : Mem} (h : l[j]? = some m) : (l.take (j + 1)).eraseIdx k = if j = k then (l.take j).eraseIdx k else (l.take j).eraseIdx k ++ [m] := by
  obtain ⟨h1, h2⟩ := List.getElem?_eq_some_iff.1 h
  rw [List.take_succ_eq_append_getElem h1, h2]
  have hl : (l.take j).length = j := by simp; omega
  by_cases hjk : j = k
  · rw [if_pos hjk, List.eraseIdx_append_of_length_le (by omega)]
    rw [List.eraseIdx_of_length_le (l := l.take j) (by omega), hl, hjk, Nat.sub_self]
    simp
  · rw [if_neg hjk]
    by_cases hlt : k < j
    · rw [List.eraseIdx_append_of_lt_length (by omega)]
    · rw [List.eraseIdx_of_length_le (by simp; omega), List.eraseIdx_of_length_le (by omega)]

theorem dropped_none (h : CfgR N w cv sv c) : Calls Try.prog 41 #[cfgV c.epoch cv sv, .int .i64 (-1)] w fun e w' => e = .returned (.tuple #[nilC, .int .i64 23]) ∧ Grow w w' := by
  obtain ⟨a, cc, rfl⟩ := h.chain.slice
  obtain ⟨sa, sc, rfl⟩ := h.stores.slice
  clear h
  go_enter Try.func41, Try.ntmps41
  go_upto_region 1 with fail
  have hg0 : Grow w ((w.alloc (.cells #[.int .i64 (c.epoch : Int), .slice a c.chain.length cc, .slice sa c.stores.length sc] 59)).alloc (.cells #[.int .i64 0, .slice none 0 0, .slice none 0 0] 59)) := (Grow.alloc _ _).trans (Grow.alloc _ _)
  have hb1 := heap_alloc_new (w.alloc (.cells #[.int .i64 (c.epoch : Int), .slice a c.chain.length cc, .slice sa c.stores.length sc] 59)) (.cells #[.int .i64 0, .slice none 0 0, .slice none 0 0] 59)
  rw [show (w.alloc (.cells #[.int .i64 (c.epoch : Int), .slice a c.chain.length cc, .slice sa c.stores.length sc] 59)).heap.size = w.heap.size + 1 by simp] at hb1
  generalize (w.alloc (.cells #[.int .i64 (c.epoch : Int), .slice a c.chain.length cc, .slice sa c.stores.length sc] 59)).alloc (.cells #[.int .i64 0, .slice none 0 0, .slice none 0 0] 59) = w1 at *
  obtain ⟨r, hr⟩ : ∃ r, r = w.heap.size + 1 := ⟨_, rfl⟩
  rw [← hr] at hb1 ⊢
  have hrw : w.heap.size ≤ r := by omega
  have Hfin := Lib.hid (((hg0.setCell (p := ⟨r, 0, none⟩) hrw (.int .i64 0)).setCell (p := ⟨r, 1, none⟩) hrw (.slice none 0 0)).setCell (p := ⟨r, 2, none⟩) hrw (.slice none 0 0))
  have hfin := setCell_heap (setCell_heap (setCell_heap hb1 0 (.int .i64 0)) 1 (.slice none 0 0)) 2 (.slice none 0 0)
  have Hf : Hid (∀ W, W = ((w1.setCell ⟨r, 0, none⟩ (.int .i64 0)).setCell ⟨r, 1, none⟩ (.slice none 0 0)).setCell ⟨r, 2, none⟩ (.slice none 0 0) → r < W.heap.size ∧ W.cell? ⟨r, 0, none⟩ = some (.int .i64 0) ∧ W.cell? ⟨r, 1, none⟩ = some (.slice none 0 0) ∧ W.cell? ⟨r, 2, none⟩ = some (.slice none 0 0)) := Lib.hid fun W hW => by
    rw [← hW] at hfin
    exact ⟨lt_of_getElem? hfin, by simp [World.cell?, hfin], by simp [World.cell?, hfin], by simp [World.cell?, hfin]⟩
  have lr : r < w1.heap.size := lt_of_getElem? hb1
  have s0 : w1.cell? ⟨r, 0, none⟩ = some (.int .i64 0) := by simp [World.cell?, hb1]
  have s1 : w1.cell? ⟨r, 1, none⟩ = some (.slice none 0 0) := by simp [World.cell?, hb1]
  have s2 : w1.cell? ⟨r, 2, none⟩ = some (.slice none 0 0) := by simp [World.cell?, hb1]
  have g0 := frz hb1 0
  have g1 := frz hb1 1
  have g2 := frz hb1 2
  clear hfin hb1 hg0 hr hrw
  go_wp2
  obtain ⟨wf, hwf⟩ : ∃ W, W = ((w1.setCell ⟨r, 0, none⟩ (.int .i64 0)).setCell ⟨r, 1, none⟩ (.slice none 0 0)).setCell ⟨r, 2, none⟩ (.slice none 0 0) := ⟨_, rfl⟩
  obtain ⟨f0, f1, f2, f3⟩ := Hf.out wf hwf
  have Hg10 := Hfin.out
  rw [← hwf] at Hg10
  try rw [← hwf]
  clear Hfin Hf hwf lr s0 s1 s2 g0 g1 g2
  refine bodyPost_ret (v := .tuple #[nilC, .int .i64 23]) ?_ rfl ⟨rfl, Hg10⟩
  rw [results_cell_tmp rfl]
  go_simp

abbrev put3 (W : World) (r : Nat) (a b c : Value) : World := ((W.setCell ⟨r, 0, none⟩ a).setCell ⟨r, 1, none⟩ b).setCell ⟨r, 2, none⟩ c
theorem put3_heap {W : World} {r : Nat} {z0 z1 z2 : Value} {t : TypeId} (h : W.heap[r]? = some (.cells #[z0, z1, z2] t (0, 0))) (a b c : Value) : (put3 W r a b c).heap[r]? = some (.cells #[a, b, c] t (0, 0)) := by
  have := setCell_heap (setCell_heap (setCell_heap h 0 a) 1 b) 2 c
  simpa using this
theorem put3_ne {W : World} {r x : Nat} (a b c : Value) (h : x ≠ r) : (put3 W r a b c).heap[x]? = W.heap[x]? := by
  show (((W.setCell ⟨r, 0, none⟩ a).setCell ⟨r, 1, none⟩ b).setCell ⟨r, 2, none⟩ c).heap[x]? = _
  rw [Below.heap_setCell _ _ _ _ h, Below.heap_setCell _ _ _ _ h, Below.heap_setCell _ _ _ _ h]
theorem put3_grow {W : World} {r : Nat} (hg : Grow w W) (hr : w.heap.size ≤ r) (a b c : Value) : Grow w (put3 W r a b c) := ((hg.setCell (p := ⟨r, 0, none⟩) hr a).setCell (p := ⟨r, 1, none⟩) hr b).setCell (p := ⟨r, 2, none⟩) hr c
/-- What is told of the result's cells. -/
structure Res3 (W : World) (r : Nat) (a b c : Value) : Prop where
  lt : r < W.heap.size
  c0 : W.cell? ⟨r, 0, none⟩ = some a
  c1 : W.cell? ⟨r, 1, none⟩ = some b
  c2 : W.cell? ⟨r, 2, none⟩ = some c
theorem res3 {W : World} {r : Nat} {t : TypeId} {a b c : Value} (h : W.heap[r]? = some (.cells #[a, b, c] t (0, 0))) : Res3 W r a b c := ⟨lt_of_getElem? h, by simp [World.cell?, h], by simp [World.cell?, h], by simp [World.cell?, h]⟩

/-- What dropping leaves. -/
def DropPost (w : World) (sv : Value) (c : Cfg) (k : Nat) (e : Ending) (w' : World) : Prop :=
  Grow w w' ∧ ((anyWhole (c.chain.eraseIdx k) = true ∧ ∃ x, e = .returned (.tuple #[cfgV (c.epoch + 1 : Nat) x sv, .int .i64 0]) ∧ OwnMem w.heap.size w' x (c.chain.eraseIdx k)) ∨
    (anyWhole (c.chain.eraseIdx k) = false ∧ e = .returned (.tuple #[nilC, .int .i64 23])))

set_option maxRecDepth 100000 in
set_option maxHeartbeats 4000000 in
theorem dropped_any (h : CfgR N w cv sv c) (hep : c.epoch ≤ 1099511627776) {k : Nat} (hk : k < c.chain.length) : Calls Try.prog 41 #[cfgV c.epoch cv sv, .int .i64 (k : Int)] w (DropPost w sv c k) := by
  obtain ⟨a, cc, rfl⟩ := h.chain.slice
  obtain ⟨sa, sc, rfl⟩ := h.stores.slice
  have H := Lib.hid h
  have hl5 := h.small
  clear h
  have hk0 : decide ((k : Int) < 0) = false := by simp
  have hwr : IntKind.i64.wrap ((c.epoch : Int) + 1) = (c.epoch : Int) + 1 := IntWalk.i64_in _ (by omega)
  go_enter Try.func41, Try.ntmps41
  go_upto_region 1 with fail
  have hg0 : Grow w ((w.alloc (.cells #[.int .i64 (c.epoch : Int), .slice a c.chain.length cc, .slice sa c.stores.length sc] 59)).alloc (.cells #[.int .i64 0, .slice none 0 0, .slice none 0 0] 59)) := (Grow.alloc _ _).trans (Grow.alloc _ _)
  have hb0 := (Grow.alloc _ (.cells #[.int .i64 0, .slice none 0 0, .slice none 0 0] 59)).heap (heap_alloc_new w (.cells #[.int .i64 (c.epoch : Int), .slice a c.chain.length cc, .slice sa c.stores.length sc] 59))
  have hb1 := heap_alloc_new (w.alloc (.cells #[.int .i64 (c.epoch : Int), .slice a c.chain.length cc, .slice sa c.stores.length sc] 59)) (.cells #[.int .i64 0, .slice none 0 0, .slice none 0 0] 59)
  rw [show (w.alloc (.cells #[.int .i64 (c.epoch : Int), .slice a c.chain.length cc, .slice sa c.stores.length sc] 59)).heap.size = w.heap.size + 1 by simp] at hb1
  generalize (w.alloc (.cells #[.int .i64 (c.epoch : Int), .slice a c.chain.length cc, .slice sa c.stores.length sc] 59)).alloc (.cells #[.int .i64 0, .slice none 0 0, .slice none 0 0] 59) = w1 at *
  obtain ⟨q, hq⟩ : ∃ q, q = w.heap.size := ⟨_, rfl⟩
  obtain ⟨r, hr⟩ : ∃ r, r = w.heap.size + 1 := ⟨_, rfl⟩
  rw [← hr] at hb1 ⊢
  rw [← hq] at hb0 ⊢
  have Hq := Lib.hid hq
  have Hr := Lib.hid hr
  have Hb0 := Lib.hid hb0
  have Hb1 := Lib.hid hb1
  have Hg0 := Lib.hid hg0
  clear hq hr hb0 hb1 hg0
  go_wp2_with fail
  go_loopw [6, 7, 8] (fun bv lv iv wr => ∃ j : Nat, iv = .int .i64 j ∧ j ≤ c.chain.length ∧ bv = .bool (anyWhole ((c.chain.take j).eraseIdx k)) ∧ OwnMem w1.heap.size wr lv ((c.chain.take j).eraseIdx k) ∧ Grow w1 wr) (fun _ _ iv _ => c.chain.length - (intOf iv).toNat)
  case atStart => exact ⟨0, rfl, Nat.zero_le _, by simp [anyWhole], World.ownsRow_nil _ _ _ _, Grow.refl _⟩
  case round =>
    obtain ⟨j, rfl, hj, rfl, ho, hg⟩ := hrel
    have hbr := hg.heap Hb0.out
    have hqr : q < wr.heap.size := lt_of_getElem? hbr
    have q1 : wr.cell? ⟨q, 1, none⟩ = some (.slice a c.chain.length cc) := by simp [World.cell?, hbr]
    obtain ⟨bb, hbb⟩ : ∃ bb, anyWhole ((c.chain.take j).eraseIdx k) = bb := ⟨_, rfl⟩
    obtain ⟨LL, hLL⟩ : ∃ l, (c.chain.take j).eraseIdx k = l := ⟨_, rfl⟩
    rw [hLL] at hbb ho
    rw [hLL, hbb]
    have Hg := Lib.hid hg
    have Ho := Lib.hid ho
    by_cases hlt : j < c.chain.length
    · obtain ⟨m, hm⟩ : ∃ m, c.chain[j]? = some m := ⟨c.chain[j], by simp [hlt]⟩
      obtain ⟨b2, o2, c2, e2, hN, hb2, hr2⟩ := (H.out.chain.grow (Hg0.out.trans hg)).addr hm
      cases e2
      obtain ⟨m0, m1, m2⟩ := rd_mem hr2 hm
      have hnx := erase_take (k := k) hm
      rw [hLL] at hnx
      have hj1 : (j : Int) < (c.chain.length : Int) := by omega
      by_cases hjk : j = k
      · rw [if_pos hjk] at hnx
        have e1 : ((j : Int) != (k : Int)) = false := by simp [hjk]
        have Hnx := Lib.hid hnx
        have Hbb := Lib.hid hbb
        clear hnx hbb hjk hm hr2 hLL ho hg hbr m0 m1 m2
        go_wp2
        go_roundw
        case rel => exact ⟨j + 1, by simp, hlt, by rw [Hnx.out, Hbb.out], by rw [Hnx.out]; exact Ho.out, Hg.out⟩
        case measure => simp [intOf]; omega
      · rw [if_neg hjk] at hnx
        have e1 : ((j : Int) != (k : Int)) = true := by simp; omega
        have hbn : anyWhole (LL ++ [m]) = (bb || m.whole) := by rw [← hbb]; simp [anyWhole]
        have hll : LL.length ≤ 1000000000 := by rw [← hLL]; have := List.length_eraseIdx_le ((c.chain.take j)) k; simp at this; omega
        obtain ⟨v', w', r1, r2, r3⟩ := ho.push (Grow.refl wr) m Hg.out.size hll
        obtain ⟨va, vc, hv⟩ := r2.slice
        rw [List.length_append, List.length_singleton] at hv
        subst hv
        have Hr1 := Lib.hid r1
        have Hnx := Lib.hid hnx
        have Hbn := Lib.hid hbn
        have hbm := run_buildMem wr m.node m.birth m.whole
        have Hrel : Hid (OwnMem w1.heap.size w' (.slice va (LL.length + 1) vc) (LL ++ [m]) ∧ Grow w1 w') := Lib.hid ⟨r2, Below.trans Hg.out r3⟩
        obtain ⟨la, lc, rfl⟩ := ho.slice
        clear hnx hbn hbb hjk hm hr2 hLL ho hg hbr r1 r2 r3 hll Ho
        cases bb
        all_goals
          go_wp2_with (at_builtin; refine wpList_append rfl rfl rfl rfl Hr1.out ?_)
          go_roundw
          case rel => exact ⟨j + 1, by simp, hlt, by rw [Hnx.out, Hbn.out]; simp, by rw [Hnx.out]; exact Hrel.out.1, Hrel.out.2⟩
          case measure => simp [intOf]; omega
    · obtain rfl : j = c.chain.length := by omega
      rw [List.take_length] at hLL
      subst hLL
      have hb1r := hg.heap Hb1.out
      have hqw : w.heap.size ≤ q := by have := Hq.out; omega
      have hrw : w.heap.size ≤ r := by have := Hr.out; omega
      have hqr1 : q ≠ r := by have := Hq.out; have := Hr.out; omega
      have Hgw := Lib.hid (Hg0.out.trans hg)
      cases bb with
      | false =>
        have Hfin := Lib.hid (res3 (put3_heap hb1r (.int .i64 0) (.slice none 0 0) (.slice none 0 0)))
        have Hgf := Lib.hid (put3_grow Hgw.out hrw (.int .i64 0) (.slice none 0 0) (.slice none 0 0))
        have lr : r < wr.heap.size := lt_of_getElem? hb1r
        have s0 : wr.cell? ⟨r, 0, none⟩ = some (.int .i64 0) := by simp [World.cell?, hb1r]
        have s1 : wr.cell? ⟨r, 1, none⟩ = some (.slice none 0 0) := by simp [World.cell?, hb1r]
        have s2 : wr.cell? ⟨r, 2, none⟩ = some (.slice none 0 0) := by simp [World.cell?, hb1r]
        have g0 := frz hb1r 0
        have g1 := frz hb1r 1
        have g2 := frz hb1r 2
        have Hbb := Lib.hid hbb
        clear hbb ho hg hbr hb1r hqw hrw hlt Ho Hg Hgw
        go_wp2
        obtain ⟨wf, hwf⟩ : ∃ W, W = ((wr.setCell ⟨r, 0, none⟩ (.int .i64 0)).setCell ⟨r, 1, none⟩ (.slice none 0 0)).setCell ⟨r, 2, none⟩ (.slice none 0 0) := ⟨_, rfl⟩
        have Hf2 : Res3 wf r (.int .i64 0) (.slice none 0 0) (.slice none 0 0) := by rw [hwf]; exact Hfin.out
        have Hg2 : Grow w wf := by rw [hwf]; exact Hgf.out
        rw [← hwf]
        clear Hfin Hgf hwf s0 s1 s2 g0 g1 g2
        obtain ⟨f0, f1, f2, f3⟩ := Hf2
        refine bodyPost_ret (v := .tuple #[nilC, .int .i64 23]) ?_ rfl ⟨Hg2, .inr ⟨Hbb.out, rfl⟩⟩
        rw [results_cell_tmp rfl]
        go_simp
      | true =>
        obtain ⟨la, lc, rfl⟩ := ho.slice
        have h1 : (wr.setCell ⟨q, 1, none⟩ (.slice la (c.chain.eraseIdx k).length lc)).heap[q]? = some (.cells #[.int .i64 (c.epoch : Int), .slice la (c.chain.eraseIdx k).length lc, .slice sa c.stores.length sc] 59 (0, 0)) := by simpa using setCell_heap hbr 1 (.slice la (c.chain.eraseIdx k).length lc)
        have h2 : ((wr.setCell ⟨q, 1, none⟩ (.slice la (c.chain.eraseIdx k).length lc)).setCell ⟨q, 0, none⟩ (.int .i64 ((c.epoch : Int) + 1))).heap[q]? = some (.cells #[.int .i64 ((c.epoch : Int) + 1), .slice la (c.chain.eraseIdx k).length lc, .slice sa c.stores.length sc] 59 (0, 0)) := by simpa using setCell_heap h1 0 (.int .i64 ((c.epoch : Int) + 1))
        have h3 : ((wr.setCell ⟨q, 1, none⟩ (.slice la (c.chain.eraseIdx k).length lc)).setCell ⟨q, 0, none⟩ (.int .i64 ((c.epoch : Int) + 1))).heap[r]? = some (.cells #[.int .i64 0, .slice none 0 0, .slice none 0 0] 59 (0, 0)) := by
          rw [Below.heap_setCell _ _ _ _ (fun e => hqr1 e.symm), Below.heap_setCell _ _ _ _ (fun e => hqr1 e.symm)]; exact hb1r
        have hgs : Grow w ((wr.setCell ⟨q, 1, none⟩ (.slice la (c.chain.eraseIdx k).length lc)).setCell ⟨q, 0, none⟩ (.int .i64 ((c.epoch : Int) + 1))) := (Hgw.out.setCell (p := ⟨q, 1, none⟩) hqw _).setCell (p := ⟨q, 0, none⟩) hqw _
        have hq1 : q < w1.heap.size := lt_of_getElem? Hb0.out
        have hr1 : r < w1.heap.size := lt_of_getElem? Hb1.out
        have hos : OwnMem w1.heap.size ((wr.setCell ⟨q, 1, none⟩ (.slice la (c.chain.eraseIdx k).length lc)).setCell ⟨q, 0, none⟩ (.int .i64 ((c.epoch : Int) + 1))) (.slice la (c.chain.eraseIdx k).length lc) (c.chain.eraseIdx k) := ho.kp ⟨by simp, fun b (hb : w1.heap.size ≤ b) _ => by
          have hne : b ≠ q := by omega
          rw [Below.heap_setCell _ _ _ _ hne, Below.heap_setCell _ _ _ _ hne]⟩
        have f0 := frz hbr 0
        have f1 := frz hbr 1
        have f2 := frz hbr 2
        have Hbb := Lib.hid hbb
        have Hg1w := Lib.hid Hg0.out.size
        have q0 : wr.cell? ⟨q, 0, none⟩ = some (.int .i64 (c.epoch : Int)) := by simp [World.cell?, hbr]
        have q2 : wr.cell? ⟨q, 2, none⟩ = some (.slice sa c.stores.length sc) := by simp [World.cell?, hbr]
        obtain ⟨LN, hLN⟩ : ∃ n, (c.chain.eraseIdx k).length = n := ⟨_, rfl⟩
        rw [hLN] at h1 h2 h3 hgs hos ⊢
        have H2 := Lib.hid h2
        have H3 := Lib.hid h3
        have Hgs := Lib.hid hgs
        have Hos := Lib.hid hos
        have Hlt := Lib.hid hr1
        clear hbb ho hg hbr hb1r hlt Ho Hg Hgw h1 h2 h3 hgs hos hqw hq1 hr1 hLN
        go_upto_region 15 with fail
        have h2' := H2.out
        have h3' := H3.out
        have hgs' := Hgs.out
        have hos' := Hos.out
        clear H2 H3 Hgs Hos q0 q1 q2 f0 f1 f2
        generalize (wr.setCell ⟨q, 1, none⟩ (.slice la LN lc)).setCell ⟨q, 0, none⟩ (.int .i64 ((c.epoch : Int) + 1)) = w5 at *
        have Hfin := Lib.hid (res3 (put3_heap h3' (.int .i64 ((c.epoch : Int) + 1)) (.slice la LN lc) (.slice sa c.stores.length sc)))
        have Hgf := Lib.hid (put3_grow hgs' hrw (.int .i64 ((c.epoch : Int) + 1)) (.slice la LN lc) (.slice sa c.stores.length sc))
        have Hof := Lib.hid (hos'.kp (w' := put3 w5 r (.int .i64 ((c.epoch : Int) + 1)) (.slice la LN lc) (.slice sa c.stores.length sc)) ⟨by simp, fun b (hb : w1.heap.size ≤ b) _ => put3_ne _ _ _ (by have := Hlt.out; omega)⟩)
        have lr : r < w5.heap.size := lt_of_getElem? h3'
        have lq : q < w5.heap.size := lt_of_getElem? h2'
        have q0 : w5.cell? ⟨q, 0, none⟩ = some (.int .i64 ((c.epoch : Int) + 1)) := by simp [World.cell?, h2']
        have q1 : w5.cell? ⟨q, 1, none⟩ = some (.slice la LN lc) := by simp [World.cell?, h2']
        have q2 : w5.cell? ⟨q, 2, none⟩ = some (.slice sa c.stores.length sc) := by simp [World.cell?, h2']
        have s0 : w5.cell? ⟨r, 0, none⟩ = some (.int .i64 0) := by simp [World.cell?, h3']
        have s1 : w5.cell? ⟨r, 1, none⟩ = some (.slice none 0 0) := by simp [World.cell?, h3']
        have s2 : w5.cell? ⟨r, 2, none⟩ = some (.slice none 0 0) := by simp [World.cell?, h3']
        have g0 := frz h3' 0
        have g1 := frz h3' 1
        have g2 := frz h3' 2
        clear h2' h3' hgs' hos' hrw
        go_wp2
        obtain ⟨wf, hwf⟩ : ∃ W, W = ((w5.setCell ⟨r, 0, none⟩ (.int .i64 ((c.epoch : Int) + 1))).setCell ⟨r, 1, none⟩ (.slice la LN lc)).setCell ⟨r, 2, none⟩ (.slice sa c.stores.length sc) := ⟨_, rfl⟩
        have Hf2 : Res3 wf r (.int .i64 ((c.epoch : Int) + 1)) (.slice la LN lc) (.slice sa c.stores.length sc) := by rw [hwf]; exact Hfin.out
        have Hg2 : Grow w wf := by rw [hwf]; exact Hgf.out
        have Ho2 : OwnMem w1.heap.size wf (.slice la LN lc) (c.chain.eraseIdx k) := by rw [hwf]; exact Hof.out
        rw [← hwf]
        clear Hfin Hgf Hof hwf s0 s1 s2 g0 g1 g2 q0 q1 q2
        obtain ⟨f0, f1, f2, f3⟩ := Hf2
        refine bodyPost_ret (v := .tuple #[cfgV (c.epoch + 1 : Nat) (.slice la LN lc) (.slice sa c.stores.length sc), .int .i64 0]) ?_ rfl ⟨Hg2, .inl ⟨Hbb.out, _, rfl, Ho2.low Hg1w.out⟩⟩
        rw [results_cell_tmp rfl]
        go_simp
end
end Go.Proofs.Ytfchjoejdijjeaa

/- The reference's master: a store is given. -/
namespace Go.Ch
def stepS (n : Nat) (s : Bool × Bool × List Nat) (m : Nat) : Bool × Bool × List Nat :=
  if m = n then (true, s.2.1, s.2.2) else if s.2.1 = false ∧ n < m then (s.1, true, s.2.2 ++ [n] ++ [m]) else (s.1, s.2.1, s.2.2 ++ [m])
def stS (n : Nat) (l : List Nat) : Bool × Bool × List Nat := l.foldl (stepS n) (false, false, [])
theorem stS_take {n m j : Nat} {l : List Nat} (h : l[j]? = some m) : stS n (l.take (j + 1)) = stepS n (stS n (l.take j)) m := by
  obtain ⟨h1, h2⟩ := List.getElem?_eq_some_iff.1 h
  unfold stS
  rw [List.take_succ_eq_append_getElem h1, h2, List.foldl_append]; rfl
theorem fold_len (n : Nat) : ∀ (l : List Nat) (s : Bool × Bool × List Nat), (l.foldl (stepS n) s).2.2.length ≤ s.2.2.length + 2 * l.length
  | [], s => by simp
  | m :: l, s => by
    have h := fold_len n l (stepS n s m)
    have h2 : (stepS n s m).2.2.length ≤ s.2.2.length + 2 := by unfold stepS; split; simp; split <;> simp
    simp only [List.foldl_cons, List.length_cons]; omega
theorem stS_len (n : Nat) (l : List Nat) : (stS n l).2.2.length ≤ 2 * l.length := by have := fold_len n l (false, false, []); simpa [stS] using this
theorem fold_in (n : Nat) : ∀ (l : List Nat) (s : Bool × Bool × List Nat), (l.foldl (stepS n) s).1 = (s.1 || l.contains n)
  | [], s => by simp
  | m :: l, s => by
    rw [List.foldl_cons, fold_in n l]
    unfold stepS
    by_cases h : m = n
    · rw [if_pos h]; simp [h]
    · rw [if_neg h]
      have h2 : (n == m) = false := by simp; exact fun e => h e.symm
      rw [List.contains_cons, h2]
      split <;> simp
theorem stS_in (n : Nat) (l : List Nat) : (stS n l).1 = l.contains n := by have := fold_in n l (false, false, []); simpa [stS] using this
theorem fold_laid (n : Nat) : ∀ (l : List Nat) (i : Bool) (L : List Nat), l.contains n = false → l.foldl (stepS n) (i, true, L) = (i, true, L ++ l)
  | [], i, L, _ => by simp
  | m :: l, i, L, h => by
    rw [List.contains_cons, Bool.or_eq_false_iff] at h
    have hm : ¬ m = n := fun e => by simp [e] at h
    rw [List.foldl_cons]
    have : stepS n (i, true, L) m = (i, true, L ++ [m]) := by unfold stepS; rw [if_neg hm, if_neg (by simp)]
    rw [this, fold_laid n l i _ h.2]; simp
theorem fold_new (n : Nat) : ∀ (l : List Nat) (i : Bool) (L : List Nat), l.contains n = false →
    (if (l.foldl (stepS n) (i, false, L)).2.1 = true then (l.foldl (stepS n) (i, false, L)).2.2 else (l.foldl (stepS n) (i, false, L)).2.2 ++ [n]) = L ++ placedStore n l
  | [], i, L, _ => by simp [placedStore]
  | m :: l, i, L, h => by
    rw [List.contains_cons, Bool.or_eq_false_iff] at h
    have hm : ¬ m = n := fun e => by simp [e] at h
    rw [List.foldl_cons]
    unfold placedStore
    by_cases hlt : n < m
    · have : stepS n (i, false, L) m = (i, true, L ++ [n] ++ [m]) := by unfold stepS; rw [if_neg hm, if_pos ⟨rfl, hlt⟩]
      rw [this, fold_laid n l i _ h.2, if_pos rfl, if_pos hlt]; simp
    · have : stepS n (i, false, L) m = (i, false, L ++ [m]) := by unfold stepS; rw [if_neg hm, if_neg (fun hh => hlt hh.2)]
      rw [this, if_neg hlt]
      have := fold_new n l i (L ++ [m]) h.2
      rw [this]; simp
theorem stS_new (n : Nat) (l : List Nat) (h : l.contains n = false) : (if (stS n l).2.1 = true then (stS n l).2.2 else (stS n l).2.2 ++ [n]) = placedStore n l := by
  have := fold_new n l false [] h; rw [List.nil_append] at this; exact this
end Go.Ch
namespace Go.Proofs.Ytfchjoejdijjeaa
open Go.RowKit Go.Gl Go.Wal Go.Ch Go.Shelf
section
variable {N : Nat → Prop} {w : World} {cv sv : Value} {c : Cfg}
/-- What giving leaves. -/
def StorePost (w : World) (cv : Value) (c : Cfg) (n : Nat) (e : Ending) (w' : World) : Prop :=
  Grow w w' ∧ ((c.stores.contains n = false ∧ ∃ x, e = .returned (.tuple #[cfgV (c.epoch + 1 : Nat) cv x, .int .i64 0]) ∧ OwnInt w.heap.size w' x (placedStore n c.stores)) ∨
    (c.stores.contains n = true ∧ e = .returned (.tuple #[nilC, .int .i64 23])))

set_option maxRecDepth 100000 in
set_option maxHeartbeats 4000000 in
theorem stored_any (h : CfgR N w cv sv c) (hep : c.epoch ≤ 1099511627776) (hs16 : c.stores.length ≤ 16) {n : Nat} : Calls Try.prog 42 #[cfgV c.epoch cv sv, .int .i64 (n : Int), .bool true] w (StorePost w cv c n) := by
  obtain ⟨a, cc, rfl⟩ := h.chain.slice
  obtain ⟨sa, sc, rfl⟩ := h.stores.slice
  have H := Lib.hid h
  clear h
  have hwr : IntKind.i64.wrap ((c.epoch : Int) + 1) = (c.epoch : Int) + 1 := IntWalk.i64_in _ (by omega)
  go_enter Try.func42, Try.ntmps42
  go_upto_region 1 with fail
  have hg0 : Grow w ((w.alloc (.cells #[.int .i64 (c.epoch : Int), .slice a c.chain.length cc, .slice sa c.stores.length sc] 59)).alloc (.cells #[.int .i64 0, .slice none 0 0, .slice none 0 0] 59)) := (Grow.alloc _ _).trans (Grow.alloc _ _)
  have hb0 := (Grow.alloc _ (.cells #[.int .i64 0, .slice none 0 0, .slice none 0 0] 59)).heap (heap_alloc_new w (.cells #[.int .i64 (c.epoch : Int), .slice a c.chain.length cc, .slice sa c.stores.length sc] 59))
  have hb1 := heap_alloc_new (w.alloc (.cells #[.int .i64 (c.epoch : Int), .slice a c.chain.length cc, .slice sa c.stores.length sc] 59)) (.cells #[.int .i64 0, .slice none 0 0, .slice none 0 0] 59)
  rw [show (w.alloc (.cells #[.int .i64 (c.epoch : Int), .slice a c.chain.length cc, .slice sa c.stores.length sc] 59)).heap.size = w.heap.size + 1 by simp] at hb1
  generalize (w.alloc (.cells #[.int .i64 (c.epoch : Int), .slice a c.chain.length cc, .slice sa c.stores.length sc] 59)).alloc (.cells #[.int .i64 0, .slice none 0 0, .slice none 0 0] 59) = w1 at *
  obtain ⟨q, hq⟩ : ∃ q, q = w.heap.size := ⟨_, rfl⟩
  obtain ⟨r, hr⟩ : ∃ r, r = w.heap.size + 1 := ⟨_, rfl⟩
  rw [← hr] at hb1 ⊢
  rw [← hq] at hb0 ⊢
  have Hq := Lib.hid hq
  have Hr := Lib.hid hr
  have Hb0 := Lib.hid hb0
  have Hb1 := Lib.hid hb1
  have Hg0 := Lib.hid hg0
  clear hq hr hb0 hb1 hg0
  go_wp2_with fail
  go_loopw [8, 9, 10, 11] (fun lv bv dv iv wr => ∃ j : Nat, iv = .int .i64 j ∧ j ≤ c.stores.length ∧ bv = .bool (stS n (c.stores.take j)).1 ∧ dv = .bool (stS n (c.stores.take j)).2.1 ∧ OwnInt w1.heap.size wr lv (stS n (c.stores.take j)).2.2 ∧ Grow w1 wr) (fun _ _ _ iv _ => c.stores.length - (intOf iv).toNat)
  case atStart => exact ⟨0, rfl, Nat.zero_le _, rfl, rfl, World.ownsRow_nil _ _ _ _, Grow.refl _⟩
  case round =>
    obtain ⟨j, rfl, hj, rfl, rfl, ho, hg⟩ := hrel
    have hbr := hg.heap Hb0.out
    have hqr : q < wr.heap.size := lt_of_getElem? hbr
    have q2 : wr.cell? ⟨q, 2, none⟩ = some (.slice sa c.stores.length sc) := by simp [World.cell?, hbr]
    have hll := stS_len n (c.stores.take j)
    obtain ⟨ss, hss⟩ : ∃ s, stS n (c.stores.take j) = s := ⟨_, rfl⟩
    rw [hss] at ho hll ⊢
    obtain ⟨is, la, LL⟩ := ss
    simp only at ho hll ⊢
    have hlk : LL.length ≤ 1000000000 := by simp at hll; omega
    have Hg := Lib.hid hg
    have Ho := Lib.hid ho
    by_cases hlt : j < c.stores.length
    · obtain ⟨m, hm⟩ : ∃ m, c.stores[j]? = some m := ⟨c.stores[j], by simp [hlt]⟩
      obtain ⟨b2, o2, c2, e2, hN, hb2, hr2⟩ := (H.out.stores.grow (Hg0.out.trans hg)).addr hm
      cases e2
      have n0 : wr.cell? ⟨b2, o2 + j, none⟩ = some (.int .i64 (m : Int)) := by have := hr2 j m hm 0 _ rfl; simpa using this
      have hnx := stS_take (n := n) hm
      rw [hss] at hnx
      unfold stepS at hnx
      have hj1 : (j : Int) < (c.stores.length : Int) := by omega
      by_cases hmn : m = n
      · rw [if_pos hmn] at hnx
        have e1 : ((m : Int) == (n : Int)) = true := by simp [hmn]
        have Hnx := Lib.hid hnx
        clear hnx hmn hm hr2 hss ho hg hbr hll hlk
        go_wp2
        go_roundw
        case rel => exact ⟨j + 1, by simp, hlt, by rw [Hnx.out], by rw [Hnx.out], by rw [Hnx.out]; exact Ho.out, Hg.out⟩
        case measure => simp [intOf]; omega
      · rw [if_neg hmn] at hnx
        have e1 : ((m : Int) == (n : Int)) = false := by simp; omega
        by_cases hin : la = false ∧ n < m
        · rw [if_pos hin] at hnx
          obtain ⟨hla, hnm⟩ := hin
          subst hla
          have d1 : decide ((n : Int) < (m : Int)) = true := by simp; omega
          have d2 : decide (n < m) = true := by simp; omega
          obtain ⟨v1, x1, r1, r2, r3⟩ := ho.push (Grow.refl wr) n Hg.out.size hlk
          have hgx : Grow w1 x1 := Below.trans Hg.out r3
          obtain ⟨v2, x2, s1, s2, s3⟩ := r2.push (Grow.refl x1) m hgx.size (by simp at hll ⊢; omega)
          obtain ⟨ya, yc, hy⟩ := r2.slice
          obtain ⟨za, zc, hz⟩ := s2.slice
          rw [List.length_append, List.length_singleton] at hy
          rw [List.length_append, List.length_append, List.length_singleton, List.length_singleton] at hz
          subst hy hz
          have hbx := hgx.heap Hb0.out
          have hqx : q < x1.heap.size := lt_of_getElem? hbx
          have q2x : x1.cell? ⟨q, 2, none⟩ = some (.slice (some ⟨b2, o2, none⟩) c.stores.length sc) := by simp [World.cell?, hbx]
          obtain ⟨b3, o3, c3, e3, _, _, hr3⟩ := (H.out.stores.grow (Hg0.out.trans hgx)).addr hm
          cases e3
          have n1 : x1.cell? ⟨b2, o2 + j, none⟩ = some (.int .i64 (m : Int)) := by have := hr3 j m hm 0 _ rfl; simpa using this
          have Hr1 := Lib.hid r1
          have Hs1 := Lib.hid s1
          have Hnx := Lib.hid hnx
          have Hrel : Hid (OwnInt w1.heap.size x2 (.slice za (LL.length + 1 + 1) zc) (LL ++ [n] ++ [m]) ∧ Grow w1 x2) := Lib.hid ⟨s2, Below.trans hgx s3⟩
          obtain ⟨va, vc, rfl⟩ := ho.slice
          clear hnx hmn hm hr2 hr3 hss ho hg hbr hll hlk hnm r1 r2 r3 s1 s2 s3 hgx hbx Ho
          go_wp2_with (at_builtin; first | refine wpList_append rfl rfl rfl rfl Hr1.out ?_ | refine wpList_append rfl rfl rfl rfl Hs1.out ?_)
          go_roundw
          case rel => exact ⟨j + 1, by simp, hlt, by rw [Hnx.out], by rw [Hnx.out], by rw [Hnx.out]; exact Hrel.out.1, Hrel.out.2⟩
          case measure => simp [intOf]; omega
        · rw [if_neg hin] at hnx
          obtain ⟨v1, x1, r1, r2, r3⟩ := ho.push (Grow.refl wr) m Hg.out.size hlk
          have hgx : Grow w1 x1 := Below.trans Hg.out r3
          obtain ⟨ya, yc, hy⟩ := r2.slice
          rw [List.length_append, List.length_singleton] at hy
          subst hy
          have Hr1 := Lib.hid r1
          have Hnx := Lib.hid hnx
          have Hrel : Hid (OwnInt w1.heap.size x1 (.slice ya (LL.length + 1) yc) (LL ++ [m]) ∧ Grow w1 x1) := Lib.hid ⟨r2, hgx⟩
          obtain ⟨va, vc, rfl⟩ := ho.slice
          have hd1 : la = false → decide ((n : Int) < (m : Int)) = false := fun h => by
            have : ¬ n < m := fun h2 => hin ⟨h, h2⟩
            simp; omega
          clear hnx hmn hm hr2 hss ho hg hbr hll hlk hin r1 r2 r3 hgx Ho
          cases la with
          | true =>
            clear hd1
            go_wp2_with (at_builtin; refine wpList_append rfl rfl rfl rfl Hr1.out ?_)
            go_roundw
            case rel => exact ⟨j + 1, by simp, hlt, by rw [Hnx.out], by rw [Hnx.out], by rw [Hnx.out]; exact Hrel.out.1, Hrel.out.2⟩
            case measure => simp [intOf]; omega
          | false =>
            have d1 := hd1 rfl
            have d2 : decide (n < m) = false := by simp at d1 ⊢; omega
            clear hd1
            go_wp2_with (at_builtin; refine wpList_append rfl rfl rfl rfl Hr1.out ?_)
            go_roundw
            case rel => exact ⟨j + 1, by simp, hlt, by rw [Hnx.out], by rw [Hnx.out], by rw [Hnx.out]; exact Hrel.out.1, Hrel.out.2⟩
            case measure => simp [intOf]; omega
    · obtain rfl : j = c.stores.length := by omega
      rw [List.take_length] at hss
      have hin := stS_in n c.stores
      have hnew := stS_new n c.stores
      rw [hss] at hin hnew
      simp only at hin hnew
      rw [← hin] at hnew
      have hqw : w.heap.size ≤ q := by have := Hq.out; omega
      have hrw : w.heap.size ≤ r := by have := Hr.out; omega
      have hqr1 : q ≠ r := by have := Hq.out; have := Hr.out; omega
      have hq1 : q < w1.heap.size := lt_of_getElem? Hb0.out
      have hr1 : r < w1.heap.size := lt_of_getElem? Hb1.out
      have Hlt := Lib.hid hr1
      have Hg1w := Lib.hid Hg0.out.size
      have Hin := Lib.hid hin
      have Hnew := Lib.hid hnew
      clear hin hnew hss hbr hll
      cases la with
      | true =>
        obtain ⟨za, zc, rfl⟩ := ho.slice
        have hgz := hg
        have hoz := ho
        clear hg ho Hg Ho hlk
        go_upto_region 15 with fail
        cases is with
        | true =>
          have Hgw := Lib.hid (Hg0.out.trans hgz)
          have hb1r := hgz.heap Hb1.out
          have Hfin := Lib.hid (res3 (put3_heap hb1r (.int .i64 0) (.slice none 0 0) (.slice none 0 0)))
          have Hgf := Lib.hid (put3_grow Hgw.out hrw (.int .i64 0) (.slice none 0 0) (.slice none 0 0))
          have lr : r < wr.heap.size := lt_of_getElem? hb1r
          have s0 : wr.cell? ⟨r, 0, none⟩ = some (.int .i64 0) := by simp [World.cell?, hb1r]
          have s1 : wr.cell? ⟨r, 1, none⟩ = some (.slice none 0 0) := by simp [World.cell?, hb1r]
          have s2 : wr.cell? ⟨r, 2, none⟩ = some (.slice none 0 0) := by simp [World.cell?, hb1r]
          have g0 := frz hb1r 0
          have g1 := frz hb1r 1
          have g2 := frz hb1r 2
          clear hb1r hgz hoz hqw hrw hqr1 hq1 hr1 Hnew Hgw
          go_wp2
          obtain ⟨wf, hwf⟩ : ∃ W, W = ((wr.setCell ⟨r, 0, none⟩ (.int .i64 0)).setCell ⟨r, 1, none⟩ (.slice none 0 0)).setCell ⟨r, 2, none⟩ (.slice none 0 0) := ⟨_, rfl⟩
          have Hf2 : Res3 wf r (.int .i64 0) (.slice none 0 0) (.slice none 0 0) := by rw [hwf]; exact Hfin.out
          have Hg2 : Grow w wf := by rw [hwf]; exact Hgf.out
          rw [← hwf]
          clear Hfin Hgf hwf s0 s1 s2 g0 g1 g2 lr
          obtain ⟨f0, f1, f2, f3⟩ := Hf2
          refine bodyPost_ret (v := .tuple #[nilC, .int .i64 23]) ?_ rfl ⟨Hg2, .inr ⟨Hin.out.symm, rfl⟩⟩
          rw [results_cell_tmp rfl]
          go_simp
        | false =>
          simp only [if_true] at Hnew
          have hlz : LL = placedStore n c.stores := by first | exact Hnew.out rfl | exact Hnew.out trivial
          have hoz2 : OwnInt w1.heap.size wr (.slice za LL.length zc) (placedStore n c.stores) := by rw [← hlz]; exact hoz
          have Hgw := Lib.hid (Hg0.out.trans hgz)
          have hb0r := hgz.heap Hb0.out
          have hb1r := hgz.heap Hb1.out
          have h1 : (wr.setCell ⟨q, 2, none⟩ (.slice za LL.length zc)).heap[q]? = some (.cells #[.int .i64 (c.epoch : Int), .slice a c.chain.length cc, .slice za LL.length zc] 59 (0, 0)) := by simpa using setCell_heap hb0r 2 (.slice za LL.length zc)
          have h2 : ((wr.setCell ⟨q, 2, none⟩ (.slice za LL.length zc)).setCell ⟨q, 0, none⟩ (.int .i64 ((c.epoch : Int) + 1))).heap[q]? = some (.cells #[.int .i64 ((c.epoch : Int) + 1), .slice a c.chain.length cc, .slice za LL.length zc] 59 (0, 0)) := by simpa using setCell_heap h1 0 (.int .i64 ((c.epoch : Int) + 1))
          have h3 : ((wr.setCell ⟨q, 2, none⟩ (.slice za LL.length zc)).setCell ⟨q, 0, none⟩ (.int .i64 ((c.epoch : Int) + 1))).heap[r]? = some (.cells #[.int .i64 0, .slice none 0 0, .slice none 0 0] 59 (0, 0)) := by
            rw [Below.heap_setCell _ _ _ _ (fun e => hqr1 e.symm), Below.heap_setCell _ _ _ _ (fun e => hqr1 e.symm)]; exact hb1r
          have hgs : Grow w ((wr.setCell ⟨q, 2, none⟩ (.slice za LL.length zc)).setCell ⟨q, 0, none⟩ (.int .i64 ((c.epoch : Int) + 1))) := (Hgw.out.setCell (p := ⟨q, 2, none⟩) hqw _).setCell (p := ⟨q, 0, none⟩) hqw _
          have hos : OwnInt w1.heap.size ((wr.setCell ⟨q, 2, none⟩ (.slice za LL.length zc)).setCell ⟨q, 0, none⟩ (.int .i64 ((c.epoch : Int) + 1))) (.slice za LL.length zc) (placedStore n c.stores) := hoz2.kp ⟨by simp, fun b (hb : w1.heap.size ≤ b) _ => by
            have hne : b ≠ q := by omega
            rw [Below.heap_setCell _ _ _ _ hne, Below.heap_setCell _ _ _ _ hne]⟩
          have f0 := frz hb0r 0
          have f1 := frz hb0r 1
          have f2 := frz hb0r 2
          have q0 : wr.cell? ⟨q, 0, none⟩ = some (.int .i64 (c.epoch : Int)) := by simp [World.cell?, hb0r]
          have q1 : wr.cell? ⟨q, 1, none⟩ = some (.slice a c.chain.length cc) := by simp [World.cell?, hb0r]
          have lqz : q < wr.heap.size := lt_of_getElem? hb0r
          have q2z : wr.cell? ⟨q, 2, none⟩ = some (.slice sa c.stores.length sc) := by simp [World.cell?, hb0r]
          have H2 := Lib.hid h2
          have H3 := Lib.hid h3
          have Hgs := Lib.hid hgs
          have Hos := Lib.hid hos
          clear hb0r hb1r hlz hoz2 h1 h2 h3 hgs hos hqw hq1 hr1 hoz hgz Hgw Hnew
          go_upto_region 19 with fail
          have h2' := H2.out
          have h3' := H3.out
          have hgs' := Hgs.out
          have hos' := Hos.out
          clear H2 H3 Hgs Hos q0 q1 q2z f0 f1 f2 lqz
          generalize (wr.setCell ⟨q, 2, none⟩ (.slice za LL.length zc)).setCell ⟨q, 0, none⟩ (.int .i64 ((c.epoch : Int) + 1)) = w5 at *
          have Hfin := Lib.hid (res3 (put3_heap h3' (.int .i64 ((c.epoch : Int) + 1)) (.slice a c.chain.length cc) (.slice za LL.length zc)))
          have Hgf := Lib.hid (put3_grow hgs' hrw (.int .i64 ((c.epoch : Int) + 1)) (.slice a c.chain.length cc) (.slice za LL.length zc))
          have Hof := Lib.hid (hos'.kp (w' := put3 w5 r (.int .i64 ((c.epoch : Int) + 1)) (.slice a c.chain.length cc) (.slice za LL.length zc)) ⟨by simp, fun b (hb : w1.heap.size ≤ b) _ => put3_ne _ _ _ (by have := Hlt.out; omega)⟩)
          have lr : r < w5.heap.size := lt_of_getElem? h3'
          have lq : q < w5.heap.size := lt_of_getElem? h2'
          have q0 : w5.cell? ⟨q, 0, none⟩ = some (.int .i64 ((c.epoch : Int) + 1)) := by simp [World.cell?, h2']
          have q1 : w5.cell? ⟨q, 1, none⟩ = some (.slice a c.chain.length cc) := by simp [World.cell?, h2']
          have q2 : w5.cell? ⟨q, 2, none⟩ = some (.slice za LL.length zc) := by simp [World.cell?, h2']
          have s0 : w5.cell? ⟨r, 0, none⟩ = some (.int .i64 0) := by simp [World.cell?, h3']
          have s1 : w5.cell? ⟨r, 1, none⟩ = some (.slice none 0 0) := by simp [World.cell?, h3']
          have s2 : w5.cell? ⟨r, 2, none⟩ = some (.slice none 0 0) := by simp [World.cell?, h3']
          have g0 := frz h3' 0
          have g1 := frz h3' 1
          have g2 := frz h3' 2
          clear h2' h3' hgs' hos' hrw
          go_wp2
          obtain ⟨wf, hwf⟩ : ∃ W, W = ((w5.setCell ⟨r, 0, none⟩ (.int .i64 ((c.epoch : Int) + 1))).setCell ⟨r, 1, none⟩ (.slice a c.chain.length cc)).setCell ⟨r, 2, none⟩ (.slice za LL.length zc) := ⟨_, rfl⟩
          have Hf2 : Res3 wf r (.int .i64 ((c.epoch : Int) + 1)) (.slice a c.chain.length cc) (.slice za LL.length zc) := by rw [hwf]; exact Hfin.out
          have Hg2 : Grow w wf := by rw [hwf]; exact Hgf.out
          have Ho2 : OwnInt w1.heap.size wf (.slice za LL.length zc) (placedStore n c.stores) := by rw [hwf]; exact Hof.out
          rw [← hwf]
          clear Hfin Hgf Hof hwf s0 s1 s2 g0 g1 g2 q0 q1 q2 lr lq
          obtain ⟨f0, f1, f2, f3⟩ := Hf2
          refine bodyPost_ret (v := .tuple #[cfgV (c.epoch + 1 : Nat) (.slice a c.chain.length cc) (.slice za LL.length zc), .int .i64 0]) ?_ rfl ⟨Hg2, .inl ⟨Hin.out.symm, _, rfl, Ho2.low Hg1w.out⟩⟩
          rw [results_cell_tmp rfl]
          go_simp
      | false =>
        obtain ⟨v1, x1, r1, r2, r3⟩ := ho.push (Grow.refl wr) n Hg.out.size hlk
        have hgz : Grow w1 x1 := Below.trans Hg.out r3
        have hoz := r2
        obtain ⟨za, zc, hy⟩ := r2.slice
        rw [List.length_append, List.length_singleton] at hy
        subst hy
        obtain ⟨va, vc, rfl⟩ := ho.slice
        have Hr1 := Lib.hid r1
        clear hg ho Hg Ho hlk r1 r2 r3
        go_upto_region 15 with (at_builtin; refine wpList_append rfl rfl rfl rfl Hr1.out ?_)
        clear Hr1
        cases is with
        | true =>
          have Hgw := Lib.hid (Hg0.out.trans hgz)
          have hb1r := hgz.heap Hb1.out
          have Hfin := Lib.hid (res3 (put3_heap hb1r (.int .i64 0) (.slice none 0 0) (.slice none 0 0)))
          have Hgf := Lib.hid (put3_grow Hgw.out hrw (.int .i64 0) (.slice none 0 0) (.slice none 0 0))
          have lr : r < x1.heap.size := lt_of_getElem? hb1r
          have s0 : x1.cell? ⟨r, 0, none⟩ = some (.int .i64 0) := by simp [World.cell?, hb1r]
          have s1 : x1.cell? ⟨r, 1, none⟩ = some (.slice none 0 0) := by simp [World.cell?, hb1r]
          have s2 : x1.cell? ⟨r, 2, none⟩ = some (.slice none 0 0) := by simp [World.cell?, hb1r]
          have g0 := frz hb1r 0
          have g1 := frz hb1r 1
          have g2 := frz hb1r 2
          clear hb1r hgz hoz hqw hrw hqr1 hq1 hr1 Hnew Hgw
          go_wp2
          obtain ⟨wf, hwf⟩ : ∃ W, W = ((x1.setCell ⟨r, 0, none⟩ (.int .i64 0)).setCell ⟨r, 1, none⟩ (.slice none 0 0)).setCell ⟨r, 2, none⟩ (.slice none 0 0) := ⟨_, rfl⟩
          have Hf2 : Res3 wf r (.int .i64 0) (.slice none 0 0) (.slice none 0 0) := by rw [hwf]; exact Hfin.out
          have Hg2 : Grow w wf := by rw [hwf]; exact Hgf.out
          rw [← hwf]
          clear Hfin Hgf hwf s0 s1 s2 g0 g1 g2 lr
          obtain ⟨f0, f1, f2, f3⟩ := Hf2
          refine bodyPost_ret (v := .tuple #[nilC, .int .i64 23]) ?_ rfl ⟨Hg2, .inr ⟨Hin.out.symm, rfl⟩⟩
          rw [results_cell_tmp rfl]
          go_simp
        | false =>
          simp only [Bool.false_eq_true, if_false] at Hnew
          have hlz : LL ++ [n] = placedStore n c.stores := by first | exact Hnew.out rfl | exact Hnew.out trivial
          have hoz2 : OwnInt w1.heap.size x1 (.slice za (LL.length + 1) zc) (placedStore n c.stores) := by rw [← hlz]; exact hoz
          have Hgw := Lib.hid (Hg0.out.trans hgz)
          have hb0r := hgz.heap Hb0.out
          have hb1r := hgz.heap Hb1.out
          have h1 : (x1.setCell ⟨q, 2, none⟩ (.slice za (LL.length + 1) zc)).heap[q]? = some (.cells #[.int .i64 (c.epoch : Int), .slice a c.chain.length cc, .slice za (LL.length + 1) zc] 59 (0, 0)) := by simpa using setCell_heap hb0r 2 (.slice za (LL.length + 1) zc)
          have h2 : ((x1.setCell ⟨q, 2, none⟩ (.slice za (LL.length + 1) zc)).setCell ⟨q, 0, none⟩ (.int .i64 ((c.epoch : Int) + 1))).heap[q]? = some (.cells #[.int .i64 ((c.epoch : Int) + 1), .slice a c.chain.length cc, .slice za (LL.length + 1) zc] 59 (0, 0)) := by simpa using setCell_heap h1 0 (.int .i64 ((c.epoch : Int) + 1))
          have h3 : ((x1.setCell ⟨q, 2, none⟩ (.slice za (LL.length + 1) zc)).setCell ⟨q, 0, none⟩ (.int .i64 ((c.epoch : Int) + 1))).heap[r]? = some (.cells #[.int .i64 0, .slice none 0 0, .slice none 0 0] 59 (0, 0)) := by
            rw [Below.heap_setCell _ _ _ _ (fun e => hqr1 e.symm), Below.heap_setCell _ _ _ _ (fun e => hqr1 e.symm)]; exact hb1r
          have hgs : Grow w ((x1.setCell ⟨q, 2, none⟩ (.slice za (LL.length + 1) zc)).setCell ⟨q, 0, none⟩ (.int .i64 ((c.epoch : Int) + 1))) := (Hgw.out.setCell (p := ⟨q, 2, none⟩) hqw _).setCell (p := ⟨q, 0, none⟩) hqw _
          have hos : OwnInt w1.heap.size ((x1.setCell ⟨q, 2, none⟩ (.slice za (LL.length + 1) zc)).setCell ⟨q, 0, none⟩ (.int .i64 ((c.epoch : Int) + 1))) (.slice za (LL.length + 1) zc) (placedStore n c.stores) := hoz2.kp ⟨by simp, fun b (hb : w1.heap.size ≤ b) _ => by
            have hne : b ≠ q := by omega
            rw [Below.heap_setCell _ _ _ _ hne, Below.heap_setCell _ _ _ _ hne]⟩
          have f0 := frz hb0r 0
          have f1 := frz hb0r 1
          have f2 := frz hb0r 2
          have q0 : x1.cell? ⟨q, 0, none⟩ = some (.int .i64 (c.epoch : Int)) := by simp [World.cell?, hb0r]
          have q1 : x1.cell? ⟨q, 1, none⟩ = some (.slice a c.chain.length cc) := by simp [World.cell?, hb0r]
          have lqz : q < x1.heap.size := lt_of_getElem? hb0r
          have q2z : x1.cell? ⟨q, 2, none⟩ = some (.slice sa c.stores.length sc) := by simp [World.cell?, hb0r]
          have H2 := Lib.hid h2
          have H3 := Lib.hid h3
          have Hgs := Lib.hid hgs
          have Hos := Lib.hid hos
          clear hb0r hb1r hlz hoz2 h1 h2 h3 hgs hos hqw hq1 hr1 hoz hgz Hgw Hnew
          go_upto_region 19 with fail
          have h2' := H2.out
          have h3' := H3.out
          have hgs' := Hgs.out
          have hos' := Hos.out
          clear H2 H3 Hgs Hos q0 q1 q2z f0 f1 f2 lqz
          generalize (x1.setCell ⟨q, 2, none⟩ (.slice za (LL.length + 1) zc)).setCell ⟨q, 0, none⟩ (.int .i64 ((c.epoch : Int) + 1)) = w5 at *
          have Hfin := Lib.hid (res3 (put3_heap h3' (.int .i64 ((c.epoch : Int) + 1)) (.slice a c.chain.length cc) (.slice za (LL.length + 1) zc)))
          have Hgf := Lib.hid (put3_grow hgs' hrw (.int .i64 ((c.epoch : Int) + 1)) (.slice a c.chain.length cc) (.slice za (LL.length + 1) zc))
          have Hof := Lib.hid (hos'.kp (w' := put3 w5 r (.int .i64 ((c.epoch : Int) + 1)) (.slice a c.chain.length cc) (.slice za (LL.length + 1) zc)) ⟨by simp, fun b (hb : w1.heap.size ≤ b) _ => put3_ne _ _ _ (by have := Hlt.out; omega)⟩)
          have lr : r < w5.heap.size := lt_of_getElem? h3'
          have lq : q < w5.heap.size := lt_of_getElem? h2'
          have q0 : w5.cell? ⟨q, 0, none⟩ = some (.int .i64 ((c.epoch : Int) + 1)) := by simp [World.cell?, h2']
          have q1 : w5.cell? ⟨q, 1, none⟩ = some (.slice a c.chain.length cc) := by simp [World.cell?, h2']
          have q2 : w5.cell? ⟨q, 2, none⟩ = some (.slice za (LL.length + 1) zc) := by simp [World.cell?, h2']
          have s0 : w5.cell? ⟨r, 0, none⟩ = some (.int .i64 0) := by simp [World.cell?, h3']
          have s1 : w5.cell? ⟨r, 1, none⟩ = some (.slice none 0 0) := by simp [World.cell?, h3']
          have s2 : w5.cell? ⟨r, 2, none⟩ = some (.slice none 0 0) := by simp [World.cell?, h3']
          have g0 := frz h3' 0
          have g1 := frz h3' 1
          have g2 := frz h3' 2
          clear h2' h3' hgs' hos' hrw
          go_wp2
          obtain ⟨wf, hwf⟩ : ∃ W, W = ((w5.setCell ⟨r, 0, none⟩ (.int .i64 ((c.epoch : Int) + 1))).setCell ⟨r, 1, none⟩ (.slice a c.chain.length cc)).setCell ⟨r, 2, none⟩ (.slice za (LL.length + 1) zc) := ⟨_, rfl⟩
          have Hf2 : Res3 wf r (.int .i64 ((c.epoch : Int) + 1)) (.slice a c.chain.length cc) (.slice za (LL.length + 1) zc) := by rw [hwf]; exact Hfin.out
          have Hg2 : Grow w wf := by rw [hwf]; exact Hgf.out
          have Ho2 : OwnInt w1.heap.size wf (.slice za (LL.length + 1) zc) (placedStore n c.stores) := by rw [hwf]; exact Hof.out
          rw [← hwf]
          clear Hfin Hgf Hof hwf s0 s1 s2 g0 g1 g2 q0 q1 q2 lr lq
          obtain ⟨f0, f1, f2, f3⟩ := Hf2
          refine bodyPost_ret (v := .tuple #[cfgV (c.epoch + 1 : Nat) (.slice a c.chain.length cc) (.slice za (LL.length + 1) zc), .int .i64 0]) ?_ rfl ⟨Hg2, .inl ⟨Hin.out.symm, _, rfl, Ho2.low Hg1w.out⟩⟩
          rw [results_cell_tmp rfl]
          go_simp
end
end Go.Proofs.Ytfchjoejdijjeaa

/- The reference's master: Do. -/
namespace Go.Proofs.Ytfchjoejdijjeaa
open Go.RowKit Go.Gl Go.Wal Go.Ch Go.Shelf
section
variable {N : Nat → Prop} {w : World} {cv sv : Value} {c : Cfg} {x : Cmd}
abbrev cmdV (x : Cmd) : Value := .agg #[.int .i64 (x.kind : Int), .int .i64 (x.node : Int), .int .i64 (x.birth : Int), .int .i64 (x.epoch : Int)]
def DoRes (B : Nat) (w' : World) (o : Option Cfg) (e : Ending) : Prop := match o with
  | none => ∃ code : Int, (code == 0) = false ∧ e = .returned (.tuple #[nilC, .int .i64 code])
  | some c' => ∃ a b, e = .returned (.tuple #[cfgV c'.epoch a b, .int .i64 0]) ∧ OwnCfg B w' a b c'
/-- What a command leaves. -/
def DoPost (w : World) (c : Cfg) (x : Cmd) (e : Ending) (w' : World) : Prop := Grow w w' ∧ DoRes w.heap.size w' (doM c x) e
structure CmdOk (x : Cmd) : Prop where
  k1 : 1 ≤ x.kind
  k4 : x.kind ≤ 4
  node : x.node < 16
  birth : x.birth ≤ 1000000
  ep : x.epoch ≤ 1099511627776

section
variable {i : Nat}
theorem do1_some (hm : ¬ (c.epoch = mostN)) (hk : x.kind = 1) (hp : place c.chain x.node = some i) : doM c x = none := by unfold doM; rw [if_neg (fun h => hm h.2), hk, hp]; rfl
theorem do1_full (hm : ¬ (c.epoch = mostN)) (hk : x.kind = 1) (hp : place c.chain x.node = none) (h : 5 ≤ c.chain.length) : doM c x = none := by unfold doM; rw [if_neg (fun h => hm h.2), hk, hp]; simp [h]
theorem do1_ok (hm : ¬ (c.epoch = mostN)) (hk : x.kind = 1) (hp : place c.chain x.node = none) (h : ¬ 5 ≤ c.chain.length) : doM c x = some ⟨c.epoch + 1, c.chain ++ [⟨x.node, x.birth, decide (c.chain.length = 0)⟩], c.stores⟩ := by unfold doM; rw [if_neg (fun h => hm h.2), hk, hp]; simp [h]
theorem do2_none (hm : ¬ (c.epoch = mostN)) (hk : x.kind = 2) (hp : place c.chain x.node = none) : doM c x = none := by unfold doM; rw [if_neg (fun h => hm h.2), hk, hp]; rfl
theorem do2_bad (hm : ¬ (c.epoch = mostN)) (hk : x.kind = 2) (hp : place c.chain x.node = some i) (h : anyWhole (c.chain.eraseIdx i) = false) : doM c x = none := by unfold doM; rw [if_neg (fun h => hm h.2), hk, hp]; simp [h]
theorem do2_ok (hm : ¬ (c.epoch = mostN)) (hk : x.kind = 2) (hp : place c.chain x.node = some i) (h : anyWhole (c.chain.eraseIdx i) = true) : doM c x = some ⟨c.epoch + 1, c.chain.eraseIdx i, c.stores⟩ := by unfold doM; rw [if_neg (fun h => hm h.2), hk, hp]; simp [h]
theorem do3_ep (hm : ¬ (c.epoch = mostN)) (hk : x.kind = 3) (h : x.epoch ≠ c.epoch) : doM c x = none := by unfold doM; rw [if_neg (fun h => hm h.2), hk]; simp [h]
theorem do3_none (hm : ¬ (c.epoch = mostN)) (hk : x.kind = 3) (hp : place c.chain x.node = none) : doM c x = none := by unfold doM; rw [if_neg (fun h => hm h.2), hk, hp]; simp
theorem do3_bad {m : Mem} (hm : ¬ (c.epoch = mostN)) (hk : x.kind = 3) (hp : place c.chain x.node = some i) (h : c.chain[i]? = some m) (h2 : ¬ (m.birth = x.birth ∧ m.whole = false)) : doM c x = none := by unfold doM; rw [if_neg (fun h => hm h.2), hk, hp]; simp only [h]; rw [if_neg h2]; simp
theorem do3_ok {m : Mem} (hm : ¬ (c.epoch = mostN)) (hk : x.kind = 3) (he : x.epoch = c.epoch) (hp : place c.chain x.node = some i) (h : c.chain[i]? = some m) (h2 : m.birth = x.birth ∧ m.whole = false) : doM c x = some ⟨c.epoch, c.chain.set i ⟨m.node, m.birth, true⟩, c.stores⟩ := by unfold doM; rw [if_neg (fun h => hm h.2), hk, hp]; simp only [h]; rw [if_pos h2]; simp [he]
theorem do4_in (hm : ¬ (c.epoch = mostN)) (hk : x.kind = 4) (h : c.stores.contains x.node = true) : doM c x = none := by unfold doM; rw [if_neg (fun h => hm h.2), hk]; simp only [h]; simp
theorem do4_ok (hm : ¬ (c.epoch = mostN)) (hk : x.kind = 4) (h : c.stores.contains x.node = false) : doM c x = some ⟨c.epoch + 1, c.chain, placedStore x.node c.stores⟩ := by unfold doM; rw [if_neg (fun h => hm h.2), hk]; simp only [h]; simp
end
theorem placeF_lt {n : Nat} : ∀ {l : List Mem} {k i : Nat}, placeF n l k = some i → k ≤ i ∧ i - k < l.length
  | [], k, i, h => by cases h
  | m :: l, k, i, h => by
    unfold placeF at h
    split at h
    · cases h; simp
    · have := placeF_lt h
      simp; omega
theorem place_lt {l : List Mem} {n i : Nat} (h : place l n = some i) : i < l.length := by have := (placeF_lt h).2; simpa using this
theorem flat_whole {m : Mem} : ∀ {l : List Mem} {i : Nat}, l[i]? = some m → (l.set i ⟨m.node, m.birth, true⟩).flatMap encMem = (l.flatMap encMem).set (i * 3 + 2) (.bool true)
  | [], i, h => by simp at h
  | x :: l, 0, h => by
    have : x = m := by simpa using h
    subst this
    simp [encMem]
  | x :: l, i + 1, h => by
    have ih := flat_whole (l := l) (i := i) (by simpa using h)
    rw [List.set_cons_succ, List.flatMap_cons, ih, List.flatMap_cons]
    rw [show (i + 1) * 3 + 2 = (i * 3 + 2) + 1 + 1 + 1 by omega]
    simp [encMem]
/-- A member is marked whole. -/
theorem OwnMem.mark {B : Nat} {v : Value} {l : List Mem} (h : OwnMem B w v l) {i : Nat} {m : Mem} (hm : l[i]? = some m) :
    ∃ g cap, v = .slice (some ⟨g, 0, none⟩) l.length cap ∧ B ≤ g ∧ g < w.heap.size ∧ (∃ cur, w.heap[g]? = some (.cells cur 71 (0, 0))) ∧ w.cell? ⟨g, i * 3 + 1, none⟩ = some (.int .i64 (m.birth : Int)) ∧ w.cell? ⟨g, i * 3 + 2, none⟩ = some (.bool m.whole) ∧ w.frozen? ⟨g, i * 3 + 2, none⟩ = false ∧
      OwnMem B (w.setCell ⟨g, i * 3 + 2, none⟩ (.bool true)) v (l.set i ⟨m.node, m.birth, true⟩) := by
  have h0 := h
  obtain ⟨h1, h2⟩ := h
  rcases h2 with ⟨hv, e⟩ | ⟨g, cap, cur, rfl, hB, hg, hn, hm2, hcs, htk⟩
  · have : l = [] := List.eq_nil_of_length_eq_zero e
    rw [this] at hm; simp at hm
  · have hrd := rd_of_owns encMem3 h0
    obtain ⟨m0, m1, m2⟩ := rd_mem hrd hm
    rw [Nat.zero_add] at m1 m2
    refine ⟨g, cap, rfl, hB, lt_of_getElem? hg, ⟨cur, hg⟩, m1, m2, frz hg _, ?_⟩
    have hset := setCell_heap hg (i * 3 + 2) (.bool true)
    refine ⟨by rw [flat_whole hm, List.length_set, h1, List.length_set], .inr ⟨g, cap, _, by rw [List.length_set], hB, hset, by rw [List.length_set]; exact hn, hm2, by simpa using hcs, ?_⟩⟩
    rw [flat_whole hm, ← htk, List.length_set, Array.toList_setIfInBounds, List.take_set]

theorem ty_ne2 {W : World} {b g : Nat} {x y : Array Value} {t u : TypeId} {p q : Nat × Nat} (hb : W.heap[b]? = some (.cells x t p)) (hg : W.heap[g]? = some (.cells y u q)) (h : t ≠ u) : b ≠ g := fun e => by
  rw [e, hg] at hb; cases hb; exact h rfl
theorem OwnCfg.push {B : Nat} {xv yv : Value} (h : OwnCfg B w xv yv c) (m : Mem) (e : Nat) (hB : B ≤ w.heap.size) (hl : c.chain.length ≤ 1000000000) :
    ∃ xv' w', (Builtin.append_ #[57, 57] 57 #[xv, .slice (some ⟨w.heap.size, 0, none⟩) 1 1]).run Try.prog (w.alloc (.cells #[.int .i64 (m.node : Int), .int .i64 (m.birth : Int), .bool m.whole] 71)) = .ok xv' w' ∧ OwnCfg B w' xv' yv ⟨e, c.chain ++ [m], c.stores⟩ ∧ Below B w w' := by
  obtain ⟨g', cap, w', hrun, hown, hgr, hgb⟩ := append_el (P := Try.prog) Try.underlying57 Try.infoMem rfl (by decide) h.1 (es := encMem m) rfl (encMem_one m) hB hl (by decide)
  refine ⟨_, w', hrun, ⟨?_, owns_keep h.2 (fun g hg => ?_)⟩, below_own (Grow.refl w) hB h.1 hgr⟩
  · show w'.ownsRow B _ _ _ (c.chain ++ [m]).length ((c.chain ++ [m]).flatMap encMem)
    rw [List.flatMap_append, List.length_append]
    simpa using hown
  · obtain ⟨_, hl2, cur, hc⟩ := owns_lt h.2 hg
    refine hgr.block g hl2 (fun e => ?_)
    obtain ⟨_, _, cur2, hc2⟩ := owns_lt h.1 e.symm
    exact ty_ne2 hc hc2 (by decide) rfl
set_option maxRecDepth 100000 in
set_option maxHeartbeats 8000000 in
theorem rdo_any (h : CfgR N w cv sv c) (hc : CfgOk c) (hep : c.epoch < 1099511627776) (hx : CmdOk x) : Calls Try.prog 26 #[cfgV c.epoch cv sv, cmdV x] w (DoPost w c x) := by
  obtain ⟨a, cc, rfl⟩ := h.chain.slice
  obtain ⟨sa, sc, rfl⟩ := h.stores.slice
  have H := Lib.hid h
  have HC := Lib.hid hc
  have HX := Lib.hid hx
  have hl5 := h.small
  have e1 : decide ((x.kind : Int) < 1) = false := by have := hx.k1; simp; omega
  have e2 : decide ((5 : Int) < (x.kind : Int)) = false := by have := hx.k4; simp; omega
  have e3 : ((c.epoch : Int) == 1099511627776) = false := by simp; omega
  have Hep := Lib.hid hep
  clear h hc hx hep
  go_enter Try.func26, Try.ntmps26
  go_upto_region 1 with fail
  have hg0 : Grow w (((w.alloc (.cells #[.int .i64 (c.epoch : Int), .slice a c.chain.length cc, .slice sa c.stores.length sc] 59)).alloc (.cells #[.int .i64 (x.kind : Int), .int .i64 (x.node : Int), .int .i64 (x.birth : Int), .int .i64 (x.epoch : Int)] 35)).alloc (.cells #[.int .i64 0, .slice none 0 0, .slice none 0 0] 59)) := ((Grow.alloc _ _).trans (Grow.alloc _ _)).trans (Grow.alloc _ _)
  have hb0 := (Grow.alloc (w.alloc (.cells #[.int .i64 (c.epoch : Int), .slice a c.chain.length cc, .slice sa c.stores.length sc] 59)) (.cells #[.int .i64 (x.kind : Int), .int .i64 (x.node : Int), .int .i64 (x.birth : Int), .int .i64 (x.epoch : Int)] 35)).trans (Grow.alloc _ (.cells #[.int .i64 0, .slice none 0 0, .slice none 0 0] 59)) |>.heap (heap_alloc_new w (.cells #[.int .i64 (c.epoch : Int), .slice a c.chain.length cc, .slice sa c.stores.length sc] 59))
  have hb1 := (Grow.alloc _ (.cells #[.int .i64 0, .slice none 0 0, .slice none 0 0] 59)).heap (heap_alloc_new (w.alloc (.cells #[.int .i64 (c.epoch : Int), .slice a c.chain.length cc, .slice sa c.stores.length sc] 59)) (.cells #[.int .i64 (x.kind : Int), .int .i64 (x.node : Int), .int .i64 (x.birth : Int), .int .i64 (x.epoch : Int)] 35))
  have hb2 := heap_alloc_new ((w.alloc (.cells #[.int .i64 (c.epoch : Int), .slice a c.chain.length cc, .slice sa c.stores.length sc] 59)).alloc (.cells #[.int .i64 (x.kind : Int), .int .i64 (x.node : Int), .int .i64 (x.birth : Int), .int .i64 (x.epoch : Int)] 35)) (.cells #[.int .i64 0, .slice none 0 0, .slice none 0 0] 59)
  rw [show (w.alloc (.cells #[.int .i64 (c.epoch : Int), .slice a c.chain.length cc, .slice sa c.stores.length sc] 59)).heap.size = w.heap.size + 1 by simp] at hb1
  rw [show ((w.alloc (.cells #[.int .i64 (c.epoch : Int), .slice a c.chain.length cc, .slice sa c.stores.length sc] 59)).alloc (.cells #[.int .i64 (x.kind : Int), .int .i64 (x.node : Int), .int .i64 (x.birth : Int), .int .i64 (x.epoch : Int)] 35)).heap.size = w.heap.size + 1 + 1 by simp] at hb2
  generalize ((w.alloc (.cells #[.int .i64 (c.epoch : Int), .slice a c.chain.length cc, .slice sa c.stores.length sc] 59)).alloc (.cells #[.int .i64 (x.kind : Int), .int .i64 (x.node : Int), .int .i64 (x.birth : Int), .int .i64 (x.epoch : Int)] 35)).alloc (.cells #[.int .i64 0, .slice none 0 0, .slice none 0 0] 59) = w1 at *
  obtain ⟨q, hq⟩ : ∃ q, q = w.heap.size := ⟨_, rfl⟩
  obtain ⟨p, hp⟩ : ∃ p, p = w.heap.size + 1 := ⟨_, rfl⟩
  obtain ⟨r, hr⟩ : ∃ r, r = w.heap.size + 1 + 1 := ⟨_, rfl⟩
  rw [← hr] at hb2 ⊢
  rw [← hp] at hb1 ⊢
  rw [← hq] at hb0 ⊢
  have Hqw : Hid (w.heap.size ≤ q ∧ w.heap.size ≤ p ∧ w.heap.size ≤ r ∧ q ≠ p ∧ q ≠ r ∧ p ≠ r) := Lib.hid ⟨by omega, by omega, by omega, by omega, by omega, by omega⟩
  have Hb0 := Lib.hid hb0
  have Hb1 := Lib.hid hb1
  have Hb2 := Lib.hid hb2
  have Hg0 := Lib.hid hg0
  have q0 : w1.cell? ⟨q, 0, none⟩ = some (.int .i64 (c.epoch : Int)) := by simp [World.cell?, hb0]
  have q1 : w1.cell? ⟨q, 1, none⟩ = some (.slice a c.chain.length cc) := by simp [World.cell?, hb0]
  have q2 : w1.cell? ⟨q, 2, none⟩ = some (.slice sa c.stores.length sc) := by simp [World.cell?, hb0]
  have lq : q < w1.heap.size := lt_of_getElem? hb0
  have Hck := Lib.hid (rcheck_any (H.out.grow hg0) HC.out)
  clear hq hp hr hb0 hb1 hb2 hg0
  go_wp2_with fail
  (with_reducible refine Hck.out.mono ?_)
  rintro e w2 ⟨rfl, hg2⟩
  clear Hck q0 q1 q2 lq
  have Hg2 := Lib.hid (Hg0.out.trans hg2)
  have hb0 := hg2.heap Hb0.out
  have hb1 := hg2.heap Hb1.out
  have hb2 := hg2.heap Hb2.out
  clear Hb0 Hb1 Hb2 hg2 Hg0
  have Hb0 := Lib.hid hb0
  have Hb1 := Lib.hid hb1
  have Hb2 := Lib.hid hb2
  have q0 : w2.cell? ⟨q, 0, none⟩ = some (.int .i64 (c.epoch : Int)) := by simp [World.cell?, hb0]
  have q1 : w2.cell? ⟨q, 1, none⟩ = some (.slice a c.chain.length cc) := by simp [World.cell?, hb0]
  have q2 : w2.cell? ⟨q, 2, none⟩ = some (.slice sa c.stores.length sc) := by simp [World.cell?, hb0]
  have p0 : w2.cell? ⟨p, 0, none⟩ = some (.int .i64 (x.kind : Int)) := by simp [World.cell?, hb1]
  have p1 : w2.cell? ⟨p, 1, none⟩ = some (.int .i64 (x.node : Int)) := by simp [World.cell?, hb1]
  have p2 : w2.cell? ⟨p, 2, none⟩ = some (.int .i64 (x.birth : Int)) := by simp [World.cell?, hb1]
  have lq : q < w2.heap.size := lt_of_getElem? hb0
  have lp : p < w2.heap.size := lt_of_getElem? hb1
  have Hnd := Lib.hid (rnode_true HX.out.node w2)
  have Hbd := Lib.hid (rborn_true HX.out.birth w2)
  have Htw := Lib.hid (rtwin_any (H.out.grow Hg2.out) (by omega) (by have := HC.out.stl; omega))
  have g0 := frz hb0 0
  have g1 := frz hb0 1
  have g2 := frz hb0 2
  clear hb0 hb1 hb2
  go_wp2_with fail
  (with_reducible refine Hnd.out.mono ?_)
  rintro e w3 ⟨rfl, hw3⟩
  have hw4 := hw3.symm
  subst hw4
  clear hw3 Hnd
  go_wp2_with fail
  (with_reducible refine Hbd.out.mono ?_)
  rintro e w3 ⟨rfl, hw3⟩
  have hw4 := hw3.symm
  subst hw4
  clear hw3 Hbd
  go_wp2_with fail
  (with_reducible refine Htw.out.mono ?_)
  rintro e w3 ⟨tx, ty, rfl, ho3, hg3⟩
  have Hg3 := Lib.hid (Hg2.out.trans hg3)
  have Hlt := Lib.hid (show q < w2.heap.size ∧ r < w2.heap.size ∧ w.heap.size ≤ w2.heap.size from ⟨lt_of_getElem? Hb0.out, lt_of_getElem? Hb2.out, Hg2.out.size⟩)
  have hb0 := hg3.heap Hb0.out
  have hb1 := hg3.heap Hb1.out
  have hb2 := hg3.heap Hb2.out
  obtain ⟨ta, tc, rfl⟩ := ho3.1.slice
  obtain ⟨ua, uc, rfl⟩ := ho3.2.slice
  have Hz3 := Lib.hid hg3.size
  clear Hb0 Hb1 Hb2 hg3 Hg2 q0 q1 q2 p0 p1 p2 lq lp Htw g0 g1 g2
  have lq : q < w3.heap.size := lt_of_getElem? hb0
  have q0 : w3.cell? ⟨q, 0, none⟩ = some (.int .i64 (c.epoch : Int)) := by simp [World.cell?, hb0]
  have q1 : w3.cell? ⟨q, 1, none⟩ = some (.slice a c.chain.length cc) := by simp [World.cell?, hb0]
  have q2 : w3.cell? ⟨q, 2, none⟩ = some (.slice sa c.stores.length sc) := by simp [World.cell?, hb0]
  have g0 := frz hb0 0
  have g1 := frz hb0 1
  have g2 := frz hb0 2
  have hb0' := put3_heap hb0 (.int .i64 (c.epoch : Int)) (.slice ta c.chain.length tc) (.slice ua c.stores.length uc)
  have hb1' : (put3 w3 q (.int .i64 (c.epoch : Int)) (.slice ta c.chain.length tc) (.slice ua c.stores.length uc)).heap[p]? = _ := (put3_ne _ _ _ (fun e => Hqw.out.2.2.2.1 e.symm)).trans hb1
  have hb2' : (put3 w3 q (.int .i64 (c.epoch : Int)) (.slice ta c.chain.length tc) (.slice ua c.stores.length uc)).heap[r]? = _ := (put3_ne _ _ _ (fun e => Hqw.out.2.2.2.2.1 e.symm)).trans hb2
  have ho4 := ho3.kp (w' := put3 w3 q (.int .i64 (c.epoch : Int)) (.slice ta c.chain.length tc) (.slice ua c.stores.length uc)) ⟨by simp, fun b (hb : w2.heap.size ≤ b) _ => put3_ne _ _ _ (by have := Hlt.out.1; omega)⟩
  have hg4 := put3_grow Hg3.out Hqw.out.1 (.int .i64 (c.epoch : Int)) (.slice ta c.chain.length tc) (.slice ua c.stores.length uc)
  have Hb0 := Lib.hid hb0'
  have Hb1 := Lib.hid hb1'
  have Hb2 := Lib.hid hb2'
  have Ho := Lib.hid ho4
  have Hg4 := Lib.hid hg4
  clear hb0 hb1 hb2 hb0' hb1' hb2' ho3 ho4 hg4 Hg3
  go_upto_region 7 with fail
  obtain ⟨w4, hw4⟩ : ∃ W, W = ((w3.setCell ⟨q, 0, none⟩ (.int .i64 (c.epoch : Int))).setCell ⟨q, 1, none⟩ (.slice ta c.chain.length tc)).setCell ⟨q, 2, none⟩ (.slice ua c.stores.length uc) := ⟨_, rfl⟩
  have hb0 : w4.heap[q]? = some (.cells #[.int .i64 (c.epoch : Int), .slice ta c.chain.length tc, .slice ua c.stores.length uc] 59 (0, 0)) := by rw [hw4]; exact Hb0.out
  have hb1 : w4.heap[p]? = some (.cells #[.int .i64 (x.kind : Int), .int .i64 (x.node : Int), .int .i64 (x.birth : Int), .int .i64 (x.epoch : Int)] 35 (0, 0)) := by rw [hw4]; exact Hb1.out
  have hb2 : w4.heap[r]? = some (.cells #[.int .i64 0, .slice none 0 0, .slice none 0 0] 59 (0, 0)) := by rw [hw4]; exact Hb2.out
  have ho : OwnCfg w2.heap.size w4 (.slice ta c.chain.length tc) (.slice ua c.stores.length uc) c := by rw [hw4]; exact Ho.out
  have hg4 : Grow w w4 := by rw [hw4]; exact Hg4.out
  have hz4 : w2.heap.size ≤ w4.heap.size := by rw [hw4]; have := Hz3.out; simpa using this
  have Hz4 := Lib.hid hz4
  clear hz4 Hz3
  rw [← hw4]
  clear Hb0 Hb1 Hb2 Ho Hg4 lq g0 g1 g2 q0 q1 q2
  clear hw4
  have Hb0 := Lib.hid hb0
  have Hb1 := Lib.hid hb1
  have Hb2 := Lib.hid hb2
  have Ho := Lib.hid ho
  have Hg4 := Lib.hid hg4
  have q0 : w4.cell? ⟨q, 0, none⟩ = some (.int .i64 (c.epoch : Int)) := by simp [World.cell?, hb0]
  have q1 : w4.cell? ⟨q, 1, none⟩ = some (.slice ta c.chain.length tc) := by simp [World.cell?, hb0]
  have q2 : w4.cell? ⟨q, 2, none⟩ = some (.slice ua c.stores.length uc) := by simp [World.cell?, hb0]
  have p1 : w4.cell? ⟨p, 1, none⟩ = some (.int .i64 (x.node : Int)) := by simp [World.cell?, hb1]
  have lq : q < w4.heap.size := lt_of_getElem? hb0
  have lp : p < w4.heap.size := lt_of_getElem? hb1
  have Hpl := Lib.hid (rplace_any (N := fun x => w2.heap.size ≤ x) (ho.cfgR hl5 HC.out.stl) (by omega) x.node)
  clear hb0 hb1 hb2 ho hg4 H
  go_wp2_with fail
  (with_reducible refine Hpl.out.mono ?_)
  rintro e w5 ⟨rfl, hg5⟩
  have hb0 := hg5.heap Hb0.out
  have hb1 := hg5.heap Hb1.out
  have hb2 := hg5.heap Hb2.out
  have ho := Ho.out.kp (Kp.ofGrow hg5)
  have hgw := Hg4.out.trans hg5
  have Hw25 := Lib.hid (Nat.le_trans Hz4.out hg5.size)
  clear Hz4
  clear Hb0 Hb1 Hb2 Ho Hg4 hg5 q0 q1 q2 p1 lq lp Hpl
  obtain ⟨ok, hok⟩ : ∃ o, place c.chain x.node = o := ⟨_, rfl⟩
  rw [hok]
  have Hnm := Lib.hid (show ¬ (c.epoch = mostN) by have := Hep.out; unfold mostN; omega)
  have Hok := Lib.hid hok
  have Hb0 := Lib.hid hb0
  have Hb1 := Lib.hid hb1
  have Hb2 := Lib.hid hb2
  have Ho := Lib.hid ho
  have Hgw := Lib.hid hgw
  have q0 : w5.cell? ⟨q, 0, none⟩ = some (.int .i64 (c.epoch : Int)) := by simp [World.cell?, hb0]
  have q1 : w5.cell? ⟨q, 1, none⟩ = some (.slice ta c.chain.length tc) := by simp [World.cell?, hb0]
  have q2 : w5.cell? ⟨q, 2, none⟩ = some (.slice ua c.stores.length uc) := by simp [World.cell?, hb0]
  have p0 : w5.cell? ⟨p, 0, none⟩ = some (.int .i64 (x.kind : Int)) := by simp [World.cell?, hb1]
  have p1 : w5.cell? ⟨p, 1, none⟩ = some (.int .i64 (x.node : Int)) := by simp [World.cell?, hb1]
  have p2 : w5.cell? ⟨p, 2, none⟩ = some (.int .i64 (x.birth : Int)) := by simp [World.cell?, hb1]
  have p3 : w5.cell? ⟨p, 3, none⟩ = some (.int .i64 (x.epoch : Int)) := by simp [World.cell?, hb1]
  have r0 : w5.cell? ⟨r, 0, none⟩ = some (.int .i64 0) := by simp [World.cell?, hb2]
  have r1 : w5.cell? ⟨r, 1, none⟩ = some (.slice none 0 0) := by simp [World.cell?, hb2]
  have r2 : w5.cell? ⟨r, 2, none⟩ = some (.slice none 0 0) := by simp [World.cell?, hb2]
  have lq : q < w5.heap.size := lt_of_getElem? hb0
  have lp : p < w5.heap.size := lt_of_getElem? hb1
  have lr : r < w5.heap.size := lt_of_getElem? hb2
  have f0 := frz hb0 0
  have f1 := frz hb0 1
  have f2 := frz hb0 2
  have g0 := frz hb2 0
  have g1 := frz hb2 1
  have g2 := frz hb2 2
  have Hno : Hid (∀ code : Int, (code == 0) = false → doM c x = none → ∀ e W, e = .returned (.tuple #[nilC, .int .i64 code]) → Grow w W → DoPost w c x e W) := Lib.hid fun code h1 h2 e W h3 h4 => ⟨h4, by rw [h2]; exact ⟨code, h1, h3⟩⟩
  clear hok hb0 hb1 hb2 ho hgw
  go_upto_region 8 with fail
  rcases (show x.kind = 1 ∨ x.kind = 2 ∨ x.kind = 3 ∨ x.kind = 4 by have := HX.out.k1; have := HX.out.k4; omega) with hk | hk | hk | hk
  · rw [hk] at p0 ⊢
    cases ok with
    | some i =>
      have Hdn : Hid (doM c x = none) := Lib.hid (do1_some Hnm.out hk Hok.out)
      have d0 : decide ((0 : Int) ≤ plI (some i)) = true := by simp [plI]
      have Hfin := Lib.hid (res3 (put3_heap Hb2.out (.int .i64 0) (.slice none 0 0) (.slice none 0 0)))
      have Hgf := Lib.hid (put3_grow Hgw.out Hqw.out.2.2.1 (.int .i64 0) (.slice none 0 0) (.slice none 0 0))
      clear Hb0 Hb1 Hb2 Ho Hgw
      go_wp2
      obtain ⟨wf, hwf⟩ : ∃ W, W = ((w5.setCell ⟨r, 0, none⟩ (.int .i64 0)).setCell ⟨r, 1, none⟩ (.slice none 0 0)).setCell ⟨r, 2, none⟩ (.slice none 0 0) := ⟨_, rfl⟩
      have Hf2 : Res3 wf r (.int .i64 0) (.slice none 0 0) (.slice none 0 0) := by rw [hwf]; exact Hfin.out
      have Hg2 : Grow w wf := by rw [hwf]; exact Hgf.out
      rw [← hwf]
      clear Hfin Hgf hwf q0 q1 q2 p0 p1 p2 p3 r0 r1 r2 f0 f1 f2 g0 g1 g2 lq lp lr
      obtain ⟨f0, f1, f2, f3⟩ := Hf2
      refine bodyPost_ret (v := .tuple #[nilC, .int .i64 23]) ?_ rfl (Hno.out 23 rfl Hdn.out _ _ rfl Hg2)
      rw [results_cell_tmp rfl]
      go_simp
    | none =>
      have d0 : decide ((0 : Int) ≤ plI none) = false := by simp [plI]
      by_cases h5 : 5 ≤ c.chain.length
      · have Hdn : Hid (doM c x = none) := Lib.hid (do1_full Hnm.out hk Hok.out h5)
        have d1 : decide ((5 : Int) ≤ (c.chain.length : Int)) = true := by simp; omega
        clear h5
        have Hfin := Lib.hid (res3 (put3_heap Hb2.out (.int .i64 0) (.slice none 0 0) (.slice none 0 0)))
        have Hgf := Lib.hid (put3_grow Hgw.out Hqw.out.2.2.1 (.int .i64 0) (.slice none 0 0) (.slice none 0 0))
        clear Hb0 Hb1 Hb2 Ho Hgw
        go_wp2
        obtain ⟨wf, hwf⟩ : ∃ W, W = ((w5.setCell ⟨r, 0, none⟩ (.int .i64 0)).setCell ⟨r, 1, none⟩ (.slice none 0 0)).setCell ⟨r, 2, none⟩ (.slice none 0 0) := ⟨_, rfl⟩
        have Hf2 : Res3 wf r (.int .i64 0) (.slice none 0 0) (.slice none 0 0) := by rw [hwf]; exact Hfin.out
        have Hg2 : Grow w wf := by rw [hwf]; exact Hgf.out
        rw [← hwf]
        clear Hfin Hgf hwf q0 q1 q2 p0 p1 p2 p3 r0 r1 r2 f0 f1 f2 g0 g1 g2 lq lp lr
        obtain ⟨f0, f1, f2, f3⟩ := Hf2
        refine bodyPost_ret (v := .tuple #[nilC, .int .i64 23]) ?_ rfl (Hno.out 23 rfl Hdn.out _ _ rfl Hg2)
        rw [results_cell_tmp rfl]
        go_simp
      · have Hdn := Lib.hid (do1_ok Hnm.out hk Hok.out h5)
        have d1 : decide ((5 : Int) ≤ (c.chain.length : Int)) = false := by simp; omega
        obtain ⟨bz, hbz⟩ : ∃ bz, decide (c.chain.length = 0) = bz := ⟨_, rfl⟩
        have d2 : ((c.chain.length : Int) == 0) = bz := by rw [← hbz]; by_cases h0 : c.chain.length = 0 <;> simp [h0]
        rw [hbz] at Hdn
        obtain ⟨v', w', r1', r2', r3'⟩ := Ho.out.push ⟨x.node, x.birth, bz⟩ (c.epoch + 1) Hw25.out (by omega)
        have hbm := run_buildMem w5 x.node x.birth bz
        have hb0' := (r3'.block q Hlt.out.1).trans Hb0.out
        have hb2' := (r3'.block r Hlt.out.2.1).trans Hb2.out
        have hgw' : Grow w w' := Below.trans Hgw.out (r3'.mono Hlt.out.2.2)
        obtain ⟨va, vc, rfl⟩ := r2'.1.slice
        simp only [List.length_append, List.length_singleton] at r1' r2'
        have h1' : (w'.setCell ⟨q, 1, none⟩ (.slice va (c.chain.length + 1) vc)).heap[q]? = some (.cells #[.int .i64 (c.epoch : Int), .slice va (c.chain.length + 1) vc, .slice ua c.stores.length uc] 59 (0, 0)) := by simpa using setCell_heap hb0' 1 (.slice va (c.chain.length + 1) vc)
        have h2' : ((w'.setCell ⟨q, 1, none⟩ (.slice va (c.chain.length + 1) vc)).setCell ⟨q, 0, none⟩ (.int .i64 ((c.epoch : Int) + 1))).heap[q]? = some (.cells #[.int .i64 ((c.epoch : Int) + 1), .slice va (c.chain.length + 1) vc, .slice ua c.stores.length uc] 59 (0, 0)) := by simpa using setCell_heap h1' 0 (.int .i64 ((c.epoch : Int) + 1))
        have h3' : ((w'.setCell ⟨q, 1, none⟩ (.slice va (c.chain.length + 1) vc)).setCell ⟨q, 0, none⟩ (.int .i64 ((c.epoch : Int) + 1))).heap[r]? = some (.cells #[.int .i64 0, .slice none 0 0, .slice none 0 0] 59 (0, 0)) := by
          have hne : r ≠ q := fun e => Hqw.out.2.2.2.2.1 e.symm
          rw [Below.heap_setCell _ _ _ _ hne, Below.heap_setCell _ _ _ _ hne]; exact hb2'
        have hgs' : Grow w ((w'.setCell ⟨q, 1, none⟩ (.slice va (c.chain.length + 1) vc)).setCell ⟨q, 0, none⟩ (.int .i64 ((c.epoch : Int) + 1))) := (hgw'.setCell (p := ⟨q, 1, none⟩) Hqw.out.1 _).setCell (p := ⟨q, 0, none⟩) Hqw.out.1 _
        have ho' := r2'.kp (w' := (w'.setCell ⟨q, 1, none⟩ (.slice va (c.chain.length + 1) vc)).setCell ⟨q, 0, none⟩ (.int .i64 ((c.epoch : Int) + 1))) ⟨by simp, fun b (hb : w2.heap.size ≤ b) _ => by
          have hne : b ≠ q := by have := Hlt.out.1; omega
          rw [Below.heap_setCell _ _ _ _ hne, Below.heap_setCell _ _ _ _ hne]⟩
        have hwr : IntKind.i64.wrap ((c.epoch : Int) + 1) = (c.epoch : Int) + 1 := IntWalk.i64_in _ (by have := Hep.out; omega)
        have Hr1 := Lib.hid r1'
        have H2 := Lib.hid h2'
        have H3 := Lib.hid h3'
        have Hgs := Lib.hid hgs'
        have Ho' := Lib.hid ho'
        have k0 : w'.cell? ⟨q, 0, none⟩ = some (.int .i64 (c.epoch : Int)) := by simp [World.cell?, hb0']
        have k1 : w'.cell? ⟨q, 1, none⟩ = some (.slice ta c.chain.length tc) := by simp [World.cell?, hb0']
        have k2 : w'.cell? ⟨q, 2, none⟩ = some (.slice ua c.stores.length uc) := by simp [World.cell?, hb0']
        have lq' : q < w'.heap.size := lt_of_getElem? hb0'
        have F0 := frz hb0' 0
        have F1 := frz hb0' 1
        clear r1' r2' r3' hb0' hb2' hgw' h1' h2' h3' hgs' ho' h5 hbz Ho Hb0 Hb2 Hgw
        go_upto_region 14 with (at_builtin; refine wpList_append rfl rfl rfl rfl Hr1.out ?_)
        obtain ⟨w6, hw6⟩ : ∃ W, W = ((w'.setCell ⟨q, 1, none⟩ (.slice va (c.chain.length + 1) vc)).setCell ⟨q, 0, none⟩ (.int .i64 ((c.epoch : Int) + 1))) := ⟨_, rfl⟩
        have h2' := H2.out
        have h3' := H3.out
        have hgs' := Hgs.out
        have ho' := Ho'.out
        rw [← hw6] at h2' h3' hgs' ho' ⊢
        clear H2 H3 Hgs Ho' k0 k1 k2 lq' F0 F1 Hr1 hbm hw6 q0 q1 q2 p0 p1 p2 p3 r0 r1 r2 f0 f1 f2 g0 g1 g2 lq lp lr d0 d1 d2 Hb1
        have Hfin := Lib.hid (res3 (put3_heap h3' (.int .i64 ((c.epoch : Int) + 1)) (.slice va (c.chain.length + 1) vc) (.slice ua c.stores.length uc)))
        have Hgf := Lib.hid (put3_grow hgs' Hqw.out.2.2.1 (.int .i64 ((c.epoch : Int) + 1)) (.slice va (c.chain.length + 1) vc) (.slice ua c.stores.length uc))
        have Hof := Lib.hid (ho'.kp (w' := put3 w6 r (.int .i64 ((c.epoch : Int) + 1)) (.slice va (c.chain.length + 1) vc) (.slice ua c.stores.length uc)) ⟨by simp, fun b (hb : w2.heap.size ≤ b) _ => put3_ne _ _ _ (by have := Hlt.out.2.1; omega)⟩)
        have lr : r < w6.heap.size := lt_of_getElem? h3'
        have lq : q < w6.heap.size := lt_of_getElem? h2'
        have q0 : w6.cell? ⟨q, 0, none⟩ = some (.int .i64 ((c.epoch : Int) + 1)) := by simp [World.cell?, h2']
        have q1 : w6.cell? ⟨q, 1, none⟩ = some (.slice va (c.chain.length + 1) vc) := by simp [World.cell?, h2']
        have q2 : w6.cell? ⟨q, 2, none⟩ = some (.slice ua c.stores.length uc) := by simp [World.cell?, h2']
        have r0 : w6.cell? ⟨r, 0, none⟩ = some (.int .i64 0) := by simp [World.cell?, h3']
        have r1 : w6.cell? ⟨r, 1, none⟩ = some (.slice none 0 0) := by simp [World.cell?, h3']
        have r2 : w6.cell? ⟨r, 2, none⟩ = some (.slice none 0 0) := by simp [World.cell?, h3']
        have g0 := frz h3' 0
        have g1 := frz h3' 1
        have g2 := frz h3' 2
        clear h2' h3' hgs' ho'
        go_wp2
        obtain ⟨wf, hwf⟩ : ∃ W, W = ((w6.setCell ⟨r, 0, none⟩ (.int .i64 ((c.epoch : Int) + 1))).setCell ⟨r, 1, none⟩ (.slice va (c.chain.length + 1) vc)).setCell ⟨r, 2, none⟩ (.slice ua c.stores.length uc) := ⟨_, rfl⟩
        have Hf2 : Res3 wf r (.int .i64 ((c.epoch : Int) + 1)) (.slice va (c.chain.length + 1) vc) (.slice ua c.stores.length uc) := by rw [hwf]; exact Hfin.out
        have Hg2 : Grow w wf := by rw [hwf]; exact Hgf.out
        have Ho2 : OwnCfg w2.heap.size wf (.slice va (c.chain.length + 1) vc) (.slice ua c.stores.length uc) ⟨c.epoch + 1, c.chain ++ [⟨x.node, x.birth, bz⟩], c.stores⟩ := by rw [hwf]; exact Hof.out
        rw [← hwf]
        clear Hfin Hgf Hof hwf q0 q1 q2 r0 r1 r2 g0 g1 g2 lr lq
        obtain ⟨f0, f1, f2, f3⟩ := Hf2
        refine bodyPost_ret (v := .tuple #[cfgV (c.epoch + 1 : Nat) (.slice va (c.chain.length + 1) vc) (.slice ua c.stores.length uc), .int .i64 0]) ?_ rfl ⟨Hg2, by rw [Hdn.out]; exact ⟨_, _, rfl, Ho2.low Hlt.out.2.2⟩⟩
        rw [results_cell_tmp rfl]
        go_simp
  · rw [hk] at p0 ⊢
    have hcr := Ho.out.cfgR hl5 HC.out.stl
    cases ok with
    | none =>
      have Hdn : Hid (doM c x = none) := Lib.hid (do2_none Hnm.out hk Hok.out)
      have Hd := Lib.hid (dropped_none hcr)
      have d0 : plI none = -1 := rfl
      rw [d0]
      clear hcr
      go_wp2_with fail
      (with_reducible refine Hd.out.mono ?_)
      rintro e w6 ⟨rfl, hg6⟩
      have hb2' := hg6.heap Hb2.out
      have hgw' := Hgw.out.trans hg6
      clear Hb0 Hb1 Hb2 Hgw q0 q1 q2 p0 p1 p2 p3 r0 r1 r2 f0 f1 f2 g0 g1 g2 lq lp lr
      have r0 : w6.cell? ⟨r, 0, none⟩ = some (.int .i64 0) := by simp [World.cell?, hb2']
      have r1 : w6.cell? ⟨r, 1, none⟩ = some (.slice none 0 0) := by simp [World.cell?, hb2']
      have r2 : w6.cell? ⟨r, 2, none⟩ = some (.slice none 0 0) := by simp [World.cell?, hb2']
      have lr : r < w6.heap.size := lt_of_getElem? hb2'
      have g0 := frz hb2' 0
      have g1 := frz hb2' 1
      have g2 := frz hb2' 2
      have Hfin := Lib.hid (res3 (put3_heap hb2' (.int .i64 0) (.slice none 0 0) (.slice none 0 0)))
      have Hgf := Lib.hid (put3_grow hgw' Hqw.out.2.2.1 (.int .i64 0) (.slice none 0 0) (.slice none 0 0))
      clear hb2' hgw' hg6 Hd Ho
      go_wp2
      obtain ⟨wf, hwf⟩ : ∃ W, W = ((w6.setCell ⟨r, 0, none⟩ (.int .i64 0)).setCell ⟨r, 1, none⟩ (.slice none 0 0)).setCell ⟨r, 2, none⟩ (.slice none 0 0) := ⟨_, rfl⟩
      have Hf2 : Res3 wf r (.int .i64 0) (.slice none 0 0) (.slice none 0 0) := by rw [hwf]; exact Hfin.out
      have Hg2 : Grow w wf := by rw [hwf]; exact Hgf.out
      rw [← hwf]
      clear Hfin Hgf hwf r0 r1 r2 g0 g1 g2 lr
      obtain ⟨f0, f1, f2, f3⟩ := Hf2
      refine bodyPost_ret (v := .tuple #[nilC, .int .i64 23]) ?_ rfl (Hno.out 23 rfl Hdn.out _ _ rfl Hg2)
      rw [results_cell_tmp rfl]
      go_simp
    | some i =>
      have hi : i < c.chain.length := place_lt Hok.out
      have Hd := Lib.hid (dropped_any hcr (by have := Hep.out; omega) hi)
      have d0 : plI (some i) = (i : Int) := rfl
      rw [d0]
      clear hcr
      go_wp2_with fail
      (with_reducible refine Hd.out.mono ?_)
      rintro e w6 ⟨hg6, hdr⟩
      rcases hdr with ⟨ha, xv, rfl, hxo⟩ | ⟨ha, rfl⟩
      · have Hdn := Lib.hid (do2_ok Hnm.out hk Hok.out ha)
        have ho' : OwnCfg w2.heap.size w6 xv (.slice ua c.stores.length uc) ⟨c.epoch + 1, c.chain.eraseIdx i, c.stores⟩ := ⟨hxo.low Hw25.out, Ho.out.2.grow hg6⟩
        obtain ⟨xa, xc, rfl⟩ := hxo.slice
        obtain ⟨LN, hLN⟩ : ∃ n, (c.chain.eraseIdx i).length = n := ⟨_, rfl⟩
        rw [hLN] at ho' ⊢
        have hb2' := hg6.heap Hb2.out
        have hgw' := Hgw.out.trans hg6
        clear Hb0 Hb1 Hb2 Hgw q0 q1 q2 p0 p1 p2 p3 r0 r1 r2 f0 f1 f2 g0 g1 g2 lq lp lr
        have r0 : w6.cell? ⟨r, 0, none⟩ = some (.int .i64 0) := by simp [World.cell?, hb2']
        have r1 : w6.cell? ⟨r, 1, none⟩ = some (.slice none 0 0) := by simp [World.cell?, hb2']
        have r2 : w6.cell? ⟨r, 2, none⟩ = some (.slice none 0 0) := by simp [World.cell?, hb2']
        have lr : r < w6.heap.size := lt_of_getElem? hb2'
        have g0 := frz hb2' 0
        have g1 := frz hb2' 1
        have g2 := frz hb2' 2
        clear r0 r1 r2 lr g0 g1 g2 hxo ha hg6 Hd Ho hLN hi
        have h3' := hb2'
        have hgs' := hgw'
        clear hb2' hgw'
        have ep1 : ((c.epoch + 1 : Nat) : Int) = (c.epoch : Int) + 1 := by simp
        rw [show cfgV (c.epoch + 1) (.slice xa LN xc) (.slice ua c.stores.length uc) = .agg #[.int .i64 ((c.epoch : Int) + 1), .slice xa LN xc, .slice ua c.stores.length uc] from by simp]
        clear ep1
        have Hfin := Lib.hid (res3 (put3_heap h3' (.int .i64 ((c.epoch : Int) + 1)) (.slice xa LN xc) (.slice ua c.stores.length uc)))
        have Hgf := Lib.hid (put3_grow hgs' Hqw.out.2.2.1 (.int .i64 ((c.epoch : Int) + 1)) (.slice xa LN xc) (.slice ua c.stores.length uc))
        have Hof := Lib.hid (ho'.kp (w' := put3 w6 r (.int .i64 ((c.epoch : Int) + 1)) (.slice xa LN xc) (.slice ua c.stores.length uc)) ⟨by simp, fun b (hb : w2.heap.size ≤ b) _ => put3_ne _ _ _ (by have := Hlt.out.2.1; omega)⟩)
        have lr : r < w6.heap.size := lt_of_getElem? h3'
        have r0 : w6.cell? ⟨r, 0, none⟩ = some (.int .i64 0) := by simp [World.cell?, h3']
        have r1 : w6.cell? ⟨r, 1, none⟩ = some (.slice none 0 0) := by simp [World.cell?, h3']
        have r2 : w6.cell? ⟨r, 2, none⟩ = some (.slice none 0 0) := by simp [World.cell?, h3']
        have g0 := frz h3' 0
        have g1 := frz h3' 1
        have g2 := frz h3' 2
        clear h3' hgs' ho'
        go_wp2
        obtain ⟨wf, hwf⟩ : ∃ W, W = ((w6.setCell ⟨r, 0, none⟩ (.int .i64 ((c.epoch : Int) + 1))).setCell ⟨r, 1, none⟩ (.slice xa LN xc)).setCell ⟨r, 2, none⟩ (.slice ua c.stores.length uc) := ⟨_, rfl⟩
        have Hf2 : Res3 wf r (.int .i64 ((c.epoch : Int) + 1)) (.slice xa LN xc) (.slice ua c.stores.length uc) := by rw [hwf]; exact Hfin.out
        have Hg2 : Grow w wf := by rw [hwf]; exact Hgf.out
        have Ho2 : OwnCfg w2.heap.size wf (.slice xa LN xc) (.slice ua c.stores.length uc) ⟨c.epoch + 1, c.chain.eraseIdx i, c.stores⟩ := by rw [hwf]; exact Hof.out
        rw [← hwf]
        clear Hfin Hgf Hof hwf r0 r1 r2 g0 g1 g2 lr
        obtain ⟨f0, f1, f2, f3⟩ := Hf2
        refine bodyPost_ret (v := .tuple #[cfgV (c.epoch + 1 : Nat) (.slice xa LN xc) (.slice ua c.stores.length uc), .int .i64 0]) ?_ rfl ⟨Hg2, by rw [Hdn.out]; exact ⟨_, _, rfl, Ho2.low Hlt.out.2.2⟩⟩
        rw [results_cell_tmp rfl]
        go_simp
      · have Hdn : Hid (doM c x = none) := Lib.hid (do2_bad Hnm.out hk Hok.out ha)
        have hb2' := hg6.heap Hb2.out
        have hgw' := Hgw.out.trans hg6
        clear Hb0 Hb1 Hb2 Hgw q0 q1 q2 p0 p1 p2 p3 r0 r1 r2 f0 f1 f2 g0 g1 g2 lq lp lr
        have r0 : w6.cell? ⟨r, 0, none⟩ = some (.int .i64 0) := by simp [World.cell?, hb2']
        have r1 : w6.cell? ⟨r, 1, none⟩ = some (.slice none 0 0) := by simp [World.cell?, hb2']
        have r2 : w6.cell? ⟨r, 2, none⟩ = some (.slice none 0 0) := by simp [World.cell?, hb2']
        have lr : r < w6.heap.size := lt_of_getElem? hb2'
        have g0 := frz hb2' 0
        have g1 := frz hb2' 1
        have g2 := frz hb2' 2
        clear ha hi
        have Hfin := Lib.hid (res3 (put3_heap hb2' (.int .i64 0) (.slice none 0 0) (.slice none 0 0)))
        have Hgf := Lib.hid (put3_grow hgw' Hqw.out.2.2.1 (.int .i64 0) (.slice none 0 0) (.slice none 0 0))
        clear hb2' hgw' hg6 Hd Ho
        go_wp2
        obtain ⟨wf, hwf⟩ : ∃ W, W = ((w6.setCell ⟨r, 0, none⟩ (.int .i64 0)).setCell ⟨r, 1, none⟩ (.slice none 0 0)).setCell ⟨r, 2, none⟩ (.slice none 0 0) := ⟨_, rfl⟩
        have Hf2 : Res3 wf r (.int .i64 0) (.slice none 0 0) (.slice none 0 0) := by rw [hwf]; exact Hfin.out
        have Hg2 : Grow w wf := by rw [hwf]; exact Hgf.out
        rw [← hwf]
        clear Hfin Hgf hwf r0 r1 r2 g0 g1 g2 lr
        obtain ⟨f0, f1, f2, f3⟩ := Hf2
        refine bodyPost_ret (v := .tuple #[nilC, .int .i64 23]) ?_ rfl (Hno.out 23 rfl Hdn.out _ _ rfl Hg2)
        rw [results_cell_tmp rfl]
        go_simp
  · rw [hk] at p0 ⊢
    by_cases hee : x.epoch = c.epoch
    · have e0 : ((x.epoch : Int) != (c.epoch : Int)) = false := by simp [hee]
      cases ok with
      | none =>
        have Hdn : Hid (doM c x = none) := Lib.hid (do3_none Hnm.out hk Hok.out)
        have d0 : plI none = -1 := rfl
        rw [d0]
        clear hee
        go_wp2_with fail
        refine wp_region_row (fun W => W = w5.drew) [] (by kernel_rfl) (fun c a d v w h => by cases d <;> exact h) rfl ?_
        have hgd := Grow.drew w5
        obtain ⟨w6, hwd⟩ : ∃ W, W = w5.drew := ⟨_, rfl⟩
        rw [← hwd] at hgd
        simp only [← hwd]
        clear hwd
        have hg6 := hgd
        have hb0' := hg6.heap Hb0.out
        have hb1' := hg6.heap Hb1.out
        have hb2' := hg6.heap Hb2.out
        have hgw' := Hgw.out.trans hg6
        have ho6 := Ho.out.kp (Kp.ofGrow hg6)
        clear Hb0 Hb1 Hb2 Hgw Ho q0 q1 q2 p0 p1 p2 p3 r0 r1 r2 f0 f1 f2 g0 g1 g2 lq lp lr
        have q0 : w6.cell? ⟨q, 0, none⟩ = some (.int .i64 (c.epoch : Int)) := by simp [World.cell?, hb0']
        have q1 : w6.cell? ⟨q, 1, none⟩ = some (.slice ta c.chain.length tc) := by simp [World.cell?, hb0']
        have q2 : w6.cell? ⟨q, 2, none⟩ = some (.slice ua c.stores.length uc) := by simp [World.cell?, hb0']
        have p2 : w6.cell? ⟨p, 2, none⟩ = some (.int .i64 (x.birth : Int)) := by simp [World.cell?, hb1']
        have r0 : w6.cell? ⟨r, 0, none⟩ = some (.int .i64 0) := by simp [World.cell?, hb2']
        have r1 : w6.cell? ⟨r, 1, none⟩ = some (.slice none 0 0) := by simp [World.cell?, hb2']
        have r2 : w6.cell? ⟨r, 2, none⟩ = some (.slice none 0 0) := by simp [World.cell?, hb2']
        have lr : r < w6.heap.size := lt_of_getElem? hb2'
        have lq : q < w6.heap.size := lt_of_getElem? hb0'
        have lp : p < w6.heap.size := lt_of_getElem? hb1'
        have g0 := frz hb2' 0
        have g1 := frz hb2' 1
        have g2 := frz hb2' 2
        simp only [inRow]
        repeat ((first | (apply wpPi_quiet; rfl; rintro W rfl; go_simp; with_reducible rfl) | (apply wpPi_off; rfl)); simp only [putA, List.set])
        refine wpPi_nil ?_
        have Hfin := Lib.hid (res3 (put3_heap hb2' (.int .i64 0) (.slice none 0 0) (.slice none 0 0)))
        have Hgf := Lib.hid (put3_grow hgw' Hqw.out.2.2.1 (.int .i64 0) (.slice none 0 0) (.slice none 0 0))
        clear hb0' hb1' hb2' hgw' hg6 hgd ho6
        go_wp2
        obtain ⟨wf, hwf⟩ : ∃ W, W = ((w6.setCell ⟨r, 0, none⟩ (.int .i64 0)).setCell ⟨r, 1, none⟩ (.slice none 0 0)).setCell ⟨r, 2, none⟩ (.slice none 0 0) := ⟨_, rfl⟩
        have Hf2 : Res3 wf r (.int .i64 0) (.slice none 0 0) (.slice none 0 0) := by rw [hwf]; exact Hfin.out
        have Hg2 : Grow w wf := by rw [hwf]; exact Hgf.out
        rw [← hwf]
        clear Hfin Hgf hwf q0 q1 q2 p2 r0 r1 r2 g0 g1 g2 lr lq lp
        obtain ⟨f0, f1, f2, f3⟩ := Hf2
        refine bodyPost_ret (v := .tuple #[nilC, .int .i64 23]) ?_ rfl (Hno.out 23 rfl Hdn.out _ _ rfl Hg2)
        rw [results_cell_tmp rfl]
        go_simp
      | some i =>
        have hi : i < c.chain.length := place_lt Hok.out
        obtain ⟨m, hm⟩ : ∃ m, c.chain[i]? = some m := ⟨c.chain[i], by simp [hi]⟩
        have d0 : plI (some i) = (i : Int) := rfl
        rw [d0]
        have hi0 : decide ((i : Int) < 0) = false := by simp
        have hi1 : (i : Int) < (c.chain.length : Int) := by omega
        go_wp2_with fail
        refine wp_region_row (fun W => W = w5.drew) [] (by kernel_rfl) (fun c a d v w h => by cases d <;> exact h) rfl ?_
        have hgd := Grow.drew w5
        obtain ⟨w6, hwd⟩ : ∃ W, W = w5.drew := ⟨_, rfl⟩
        rw [← hwd] at hgd
        simp only [← hwd]
        clear hwd
        have hg6 := hgd
        have hb0' := hg6.heap Hb0.out
        have hb1' := hg6.heap Hb1.out
        have hb2' := hg6.heap Hb2.out
        have hgw' := Hgw.out.trans hg6
        have ho6 := Ho.out.kp (Kp.ofGrow hg6)
        clear Hb0 Hb1 Hb2 Hgw Ho q0 q1 q2 p0 p1 p2 p3 r0 r1 r2 f0 f1 f2 g0 g1 g2 lq lp lr
        have q0 : w6.cell? ⟨q, 0, none⟩ = some (.int .i64 (c.epoch : Int)) := by simp [World.cell?, hb0']
        have q1 : w6.cell? ⟨q, 1, none⟩ = some (.slice ta c.chain.length tc) := by simp [World.cell?, hb0']
        have q2 : w6.cell? ⟨q, 2, none⟩ = some (.slice ua c.stores.length uc) := by simp [World.cell?, hb0']
        have p2 : w6.cell? ⟨p, 2, none⟩ = some (.int .i64 (x.birth : Int)) := by simp [World.cell?, hb1']
        have r0 : w6.cell? ⟨r, 0, none⟩ = some (.int .i64 0) := by simp [World.cell?, hb2']
        have r1 : w6.cell? ⟨r, 1, none⟩ = some (.slice none 0 0) := by simp [World.cell?, hb2']
        have r2 : w6.cell? ⟨r, 2, none⟩ = some (.slice none 0 0) := by simp [World.cell?, hb2']
        have lr : r < w6.heap.size := lt_of_getElem? hb2'
        have lq : q < w6.heap.size := lt_of_getElem? hb0'
        have lp : p < w6.heap.size := lt_of_getElem? hb1'
        have g0 := frz hb2' 0
        have g1 := frz hb2' 1
        have g2 := frz hb2' 2
        obtain ⟨g, cap, hv, hBg, hgl, ⟨gcur, hgc⟩, m1, m2, fz, hmk⟩ := ho6.1.mark hm
        cases hv
        obtain ⟨bb, hbb⟩ : ∃ b, ((m.birth : Int) != (x.birth : Int)) = b := ⟨_, rfl⟩
        obtain ⟨wh, hwh⟩ : ∃ b, m.whole = b := ⟨_, rfl⟩
        rw [hwh] at m2
        have Hmk := Lib.hid hmk
        have Hm := Lib.hid hm
        have Hgc := Lib.hid hgc
        clear hmk hm hgc
        simp only [inRow]
        cases bb with
        | true =>
          have Hdn : Hid (doM c x = none) := Lib.hid (do3_bad Hnm.out hk Hok.out Hm.out (fun h => by simp [h.1] at hbb))
          repeat ((first | (apply wpPi_quiet; rfl; rintro W rfl; go_simp; with_reducible rfl) | (apply wpPi_off; rfl)); simp only [putA, List.set])
          refine wpPi_nil ?_
          clear Hmk hbb hwh hBg Hgc
          have Hfin := Lib.hid (res3 (put3_heap hb2' (.int .i64 0) (.slice none 0 0) (.slice none 0 0)))
          have Hgf := Lib.hid (put3_grow hgw' Hqw.out.2.2.1 (.int .i64 0) (.slice none 0 0) (.slice none 0 0))
          clear hb0' hb1' hb2' hgw' hg6 hgd ho6
          go_wp2
          obtain ⟨wf, hwf⟩ : ∃ W, W = ((w6.setCell ⟨r, 0, none⟩ (.int .i64 0)).setCell ⟨r, 1, none⟩ (.slice none 0 0)).setCell ⟨r, 2, none⟩ (.slice none 0 0) := ⟨_, rfl⟩
          have Hf2 : Res3 wf r (.int .i64 0) (.slice none 0 0) (.slice none 0 0) := by rw [hwf]; exact Hfin.out
          have Hg2 : Grow w wf := by rw [hwf]; exact Hgf.out
          rw [← hwf]
          clear Hfin Hgf hwf q0 q1 q2 p2 r0 r1 r2 g0 g1 g2 lr lq lp
          obtain ⟨f0, f1, f2, f3⟩ := Hf2
          refine bodyPost_ret (v := .tuple #[nilC, .int .i64 23]) ?_ rfl (Hno.out 23 rfl Hdn.out _ _ rfl Hg2)
          rw [results_cell_tmp rfl]
          go_simp
        | false =>
          have hb00 : (m.birth : Int) = x.birth := by simpa using hbb
          have hbe : m.birth = x.birth := by omega
          clear hb00
          cases wh with
          | true =>
            have Hdn : Hid (doM c x = none) := Lib.hid (do3_bad Hnm.out hk Hok.out Hm.out (fun h => by rw [hwh] at h; cases h.2))
            repeat ((first | (apply wpPi_quiet; rfl; rintro W rfl; go_simp; with_reducible rfl) | (apply wpPi_off; rfl)); simp only [putA, List.set])
            refine wpPi_nil ?_
            clear Hmk hbb hwh hBg Hgc hbe
            have Hfin := Lib.hid (res3 (put3_heap hb2' (.int .i64 0) (.slice none 0 0) (.slice none 0 0)))
            have Hgf := Lib.hid (put3_grow hgw' Hqw.out.2.2.1 (.int .i64 0) (.slice none 0 0) (.slice none 0 0))
            clear hb0' hb1' hb2' hgw' hg6 hgd ho6
            go_wp2
            obtain ⟨wf, hwf⟩ : ∃ W, W = ((w6.setCell ⟨r, 0, none⟩ (.int .i64 0)).setCell ⟨r, 1, none⟩ (.slice none 0 0)).setCell ⟨r, 2, none⟩ (.slice none 0 0) := ⟨_, rfl⟩
            have Hf2 : Res3 wf r (.int .i64 0) (.slice none 0 0) (.slice none 0 0) := by rw [hwf]; exact Hfin.out
            have Hg2 : Grow w wf := by rw [hwf]; exact Hgf.out
            rw [← hwf]
            clear Hfin Hgf hwf q0 q1 q2 p2 r0 r1 r2 g0 g1 g2 lr lq lp
            obtain ⟨f0, f1, f2, f3⟩ := Hf2
            refine bodyPost_ret (v := .tuple #[nilC, .int .i64 23]) ?_ rfl (Hno.out 23 rfl Hdn.out _ _ rfl Hg2)
            rw [results_cell_tmp rfl]
            go_simp
          | false =>
            have Hdn := Lib.hid (do3_ok Hnm.out hk hee Hok.out Hm.out ⟨hbe, hwh⟩)
            repeat ((first | (apply wpPi_quiet; rfl; rintro W rfl; go_simp; with_reducible rfl) | (apply wpPi_off; rfl)); simp only [putA, List.set])
            refine wpPi_nil ?_
            have hgq : g ≠ q := by have := Hlt.out.1; omega
            have hgr : g ≠ r := by have := Hlt.out.2.1; omega
            have h2' : (w6.setCell ⟨g, i * 3 + 2, none⟩ (.bool true)).heap[q]? = _ := (Below.heap_setCell _ _ _ _ (fun e => hgq e.symm)).trans hb0'
            have h3' : (w6.setCell ⟨g, i * 3 + 2, none⟩ (.bool true)).heap[r]? = _ := (Below.heap_setCell _ _ _ _ (fun e => hgr e.symm)).trans hb2'
            have hgs' : Grow w (w6.setCell ⟨g, i * 3 + 2, none⟩ (.bool true)) := hgw'.setCell (p := ⟨g, i * 3 + 2, none⟩) (Nat.le_trans Hlt.out.2.2 hBg) _
            have hst : OwnInt w2.heap.size (w6.setCell ⟨g, i * 3 + 2, none⟩ (.bool true)) (.slice ua c.stores.length uc) c.stores := owns_keep ho6.2 (fun y hy => Below.heap_setCell _ _ _ _ (by
              obtain ⟨_, _, cur, hc⟩ := owns_lt ho6.2 hy
              exact ty_ne2 hc Hgc.out (by decide)))
            have ho' : OwnCfg w2.heap.size (w6.setCell ⟨g, i * 3 + 2, none⟩ (.bool true)) (.slice (some ⟨g, 0, none⟩) c.chain.length tc) (.slice ua c.stores.length uc) ⟨c.epoch, c.chain.set i ⟨m.node, m.birth, true⟩, c.stores⟩ := ⟨Hmk.out, hst⟩
            have H2 := Lib.hid h2'
            have H3 := Lib.hid h3'
            have Hgs := Lib.hid hgs'
            have Ho' := Lib.hid ho'
            clear h2' h3' hgs' ho' hst Hmk hbb hwh hBg hbe hb0' hb1' hb2' hgw' hg6 hgd ho6 hgq hgr hee
            go_upto_region 23 with fail
            obtain ⟨w7, hw7⟩ : ∃ W, W = w6.setCell ⟨g, i * 3 + 2, none⟩ (.bool true) := ⟨_, rfl⟩
            have h2' := H2.out
            have h3' := H3.out
            have hgs' := Hgs.out
            have ho' := Ho'.out
            rw [← hw7] at h2' h3' hgs' ho' ⊢
            clear H2 H3 Hgs Ho' hw7 q0 q1 q2 p2 r0 r1 r2 g0 g1 g2 lr lq lp m1 m2 fz
            have Hfin := Lib.hid (res3 (put3_heap h3' (.int .i64 (c.epoch : Int)) (.slice (some ⟨g, 0, none⟩) c.chain.length tc) (.slice ua c.stores.length uc)))
            have Hgf := Lib.hid (put3_grow hgs' Hqw.out.2.2.1 (.int .i64 (c.epoch : Int)) (.slice (some ⟨g, 0, none⟩) c.chain.length tc) (.slice ua c.stores.length uc))
            have Hof := Lib.hid (ho'.kp (w' := put3 w7 r (.int .i64 (c.epoch : Int)) (.slice (some ⟨g, 0, none⟩) c.chain.length tc) (.slice ua c.stores.length uc)) ⟨by simp, fun b (hb : w2.heap.size ≤ b) _ => put3_ne _ _ _ (by have := Hlt.out.2.1; omega)⟩)
            have lr : r < w7.heap.size := lt_of_getElem? h3'
            have lq : q < w7.heap.size := lt_of_getElem? h2'
            have q0 : w7.cell? ⟨q, 0, none⟩ = some (.int .i64 (c.epoch : Int)) := by simp [World.cell?, h2']
            have q1 : w7.cell? ⟨q, 1, none⟩ = some (.slice (some ⟨g, 0, none⟩) c.chain.length tc) := by simp [World.cell?, h2']
            have q2 : w7.cell? ⟨q, 2, none⟩ = some (.slice ua c.stores.length uc) := by simp [World.cell?, h2']
            have r0 : w7.cell? ⟨r, 0, none⟩ = some (.int .i64 0) := by simp [World.cell?, h3']
            have r1 : w7.cell? ⟨r, 1, none⟩ = some (.slice none 0 0) := by simp [World.cell?, h3']
            have r2 : w7.cell? ⟨r, 2, none⟩ = some (.slice none 0 0) := by simp [World.cell?, h3']
            have g0 := frz h3' 0
            have g1 := frz h3' 1
            have g2 := frz h3' 2
            clear h2' h3' hgs' ho'
            go_wp2
            obtain ⟨wf, hwf⟩ : ∃ W, W = ((w7.setCell ⟨r, 0, none⟩ (.int .i64 (c.epoch : Int))).setCell ⟨r, 1, none⟩ (.slice (some ⟨g, 0, none⟩) c.chain.length tc)).setCell ⟨r, 2, none⟩ (.slice ua c.stores.length uc) := ⟨_, rfl⟩
            have Hf2 : Res3 wf r (.int .i64 (c.epoch : Int)) (.slice (some ⟨g, 0, none⟩) c.chain.length tc) (.slice ua c.stores.length uc) := by rw [hwf]; exact Hfin.out
            have Hg2 : Grow w wf := by rw [hwf]; exact Hgf.out
            have Ho2 : OwnCfg w2.heap.size wf (.slice (some ⟨g, 0, none⟩) c.chain.length tc) (.slice ua c.stores.length uc) ⟨c.epoch, c.chain.set i ⟨m.node, m.birth, true⟩, c.stores⟩ := by rw [hwf]; exact Hof.out
            rw [← hwf]
            clear Hfin Hgf Hof hwf q0 q1 q2 r0 r1 r2 g0 g1 g2 lr lq
            obtain ⟨f0, f1, f2, f3⟩ := Hf2
            refine bodyPost_ret (v := .tuple #[cfgV c.epoch (.slice (some ⟨g, 0, none⟩) c.chain.length tc) (.slice ua c.stores.length uc), .int .i64 0]) ?_ rfl ⟨Hg2, by rw [Hdn.out]; exact ⟨_, _, rfl, Ho2.low Hlt.out.2.2⟩⟩
            rw [results_cell_tmp rfl]
            go_simp
    · have e0 : ((x.epoch : Int) != (c.epoch : Int)) = true := by simp; omega
      have Hdn : Hid (doM c x = none) := Lib.hid (do3_ep Hnm.out hk hee)
      clear hee
      have Hfin := Lib.hid (res3 (put3_heap Hb2.out (.int .i64 0) (.slice none 0 0) (.slice none 0 0)))
      have Hgf := Lib.hid (put3_grow Hgw.out Hqw.out.2.2.1 (.int .i64 0) (.slice none 0 0) (.slice none 0 0))
      clear Hb0 Hb1 Hb2 Ho Hgw
      go_wp2
      obtain ⟨wf, hwf⟩ : ∃ W, W = ((w5.setCell ⟨r, 0, none⟩ (.int .i64 0)).setCell ⟨r, 1, none⟩ (.slice none 0 0)).setCell ⟨r, 2, none⟩ (.slice none 0 0) := ⟨_, rfl⟩
      have Hf2 : Res3 wf r (.int .i64 0) (.slice none 0 0) (.slice none 0 0) := by rw [hwf]; exact Hfin.out
      have Hg2 : Grow w wf := by rw [hwf]; exact Hgf.out
      rw [← hwf]
      clear Hfin Hgf hwf q0 q1 q2 p0 p1 p2 p3 r0 r1 r2 f0 f1 f2 g0 g1 g2 lq lp lr
      obtain ⟨f0, f1, f2, f3⟩ := Hf2
      refine bodyPost_ret (v := .tuple #[nilC, .int .i64 21]) ?_ rfl (Hno.out 21 rfl Hdn.out _ _ rfl Hg2)
      rw [results_cell_tmp rfl]
      go_simp
  · rw [hk] at p0 ⊢
    have hcr := Ho.out.cfgR hl5 HC.out.stl
    have Hd := Lib.hid (stored_any hcr (by have := Hep.out; omega) HC.out.stl (n := x.node))
    clear hcr
    go_wp2_with fail
    (with_reducible refine Hd.out.mono ?_)
    rintro e w6 ⟨hg6, hdr⟩
    rcases hdr with ⟨ha, xv, rfl, hxo⟩ | ⟨ha, rfl⟩
    · have Hdn := Lib.hid (do4_ok Hnm.out hk ha)
      have ho' : OwnCfg w2.heap.size w6 (.slice ta c.chain.length tc) xv ⟨c.epoch + 1, c.chain, placedStore x.node c.stores⟩ := ⟨Ho.out.1.grow hg6, hxo.low Hw25.out⟩
      obtain ⟨xa, xc, rfl⟩ := hxo.slice
      obtain ⟨LN, hLN⟩ : ∃ n, (placedStore x.node c.stores).length = n := ⟨_, rfl⟩
      rw [hLN] at ho' ⊢
      have hb2' := hg6.heap Hb2.out
      have hgw' := Hgw.out.trans hg6
      clear Hb0 Hb1 Hb2 Hgw q0 q1 q2 p0 p1 p2 p3 r0 r1 r2 f0 f1 f2 g0 g1 g2 lq lp lr
      have r0 : w6.cell? ⟨r, 0, none⟩ = some (.int .i64 0) := by simp [World.cell?, hb2']
      have r1 : w6.cell? ⟨r, 1, none⟩ = some (.slice none 0 0) := by simp [World.cell?, hb2']
      have r2 : w6.cell? ⟨r, 2, none⟩ = some (.slice none 0 0) := by simp [World.cell?, hb2']
      have lr : r < w6.heap.size := lt_of_getElem? hb2'
      have g0 := frz hb2' 0
      have g1 := frz hb2' 1
      have g2 := frz hb2' 2
      clear r0 r1 r2 lr g0 g1 g2 hxo ha hg6 Hd Ho hLN
      have h3' := hb2'
      have hgs' := hgw'
      clear hb2' hgw'
      have ep1 : ((c.epoch + 1 : Nat) : Int) = (c.epoch : Int) + 1 := by simp
      rw [show cfgV (c.epoch + 1) (.slice ta c.chain.length tc) (.slice xa LN xc) = .agg #[.int .i64 ((c.epoch : Int) + 1), .slice ta c.chain.length tc, .slice xa LN xc] from by simp]
      clear ep1
      have Hfin := Lib.hid (res3 (put3_heap h3' (.int .i64 ((c.epoch : Int) + 1)) (.slice ta c.chain.length tc) (.slice xa LN xc)))
      have Hgf := Lib.hid (put3_grow hgs' Hqw.out.2.2.1 (.int .i64 ((c.epoch : Int) + 1)) (.slice ta c.chain.length tc) (.slice xa LN xc))
      have Hof := Lib.hid (ho'.kp (w' := put3 w6 r (.int .i64 ((c.epoch : Int) + 1)) (.slice ta c.chain.length tc) (.slice xa LN xc)) ⟨by simp, fun b (hb : w2.heap.size ≤ b) _ => put3_ne _ _ _ (by have := Hlt.out.2.1; omega)⟩)
      have lr : r < w6.heap.size := lt_of_getElem? h3'
      have r0 : w6.cell? ⟨r, 0, none⟩ = some (.int .i64 0) := by simp [World.cell?, h3']
      have r1 : w6.cell? ⟨r, 1, none⟩ = some (.slice none 0 0) := by simp [World.cell?, h3']
      have r2 : w6.cell? ⟨r, 2, none⟩ = some (.slice none 0 0) := by simp [World.cell?, h3']
      have g0 := frz h3' 0
      have g1 := frz h3' 1
      have g2 := frz h3' 2
      clear h3' hgs' ho'
      go_wp2
      obtain ⟨wf, hwf⟩ : ∃ W, W = ((w6.setCell ⟨r, 0, none⟩ (.int .i64 ((c.epoch : Int) + 1))).setCell ⟨r, 1, none⟩ (.slice ta c.chain.length tc)).setCell ⟨r, 2, none⟩ (.slice xa LN xc) := ⟨_, rfl⟩
      have Hf2 : Res3 wf r (.int .i64 ((c.epoch : Int) + 1)) (.slice ta c.chain.length tc) (.slice xa LN xc) := by rw [hwf]; exact Hfin.out
      have Hg2 : Grow w wf := by rw [hwf]; exact Hgf.out
      have Ho2 : OwnCfg w2.heap.size wf (.slice ta c.chain.length tc) (.slice xa LN xc) ⟨c.epoch + 1, c.chain, placedStore x.node c.stores⟩ := by rw [hwf]; exact Hof.out
      rw [← hwf]
      clear Hfin Hgf Hof hwf r0 r1 r2 g0 g1 g2 lr
      obtain ⟨f0, f1, f2, f3⟩ := Hf2
      refine bodyPost_ret (v := .tuple #[cfgV (c.epoch + 1 : Nat) (.slice ta c.chain.length tc) (.slice xa LN xc), .int .i64 0]) ?_ rfl ⟨Hg2, by rw [Hdn.out]; exact ⟨_, _, rfl, Ho2.low Hlt.out.2.2⟩⟩
      rw [results_cell_tmp rfl]
      go_simp
    · have Hdn : Hid (doM c x = none) := Lib.hid (do4_in Hnm.out hk ha)
      have hb2' := hg6.heap Hb2.out
      have hgw' := Hgw.out.trans hg6
      clear Hb0 Hb1 Hb2 Hgw q0 q1 q2 p0 p1 p2 p3 r0 r1 r2 f0 f1 f2 g0 g1 g2 lq lp lr
      have r0 : w6.cell? ⟨r, 0, none⟩ = some (.int .i64 0) := by simp [World.cell?, hb2']
      have r1 : w6.cell? ⟨r, 1, none⟩ = some (.slice none 0 0) := by simp [World.cell?, hb2']
      have r2 : w6.cell? ⟨r, 2, none⟩ = some (.slice none 0 0) := by simp [World.cell?, hb2']
      have lr : r < w6.heap.size := lt_of_getElem? hb2'
      have g0 := frz hb2' 0
      have g1 := frz hb2' 1
      have g2 := frz hb2' 2
      clear ha
      have Hfin := Lib.hid (res3 (put3_heap hb2' (.int .i64 0) (.slice none 0 0) (.slice none 0 0)))
      have Hgf := Lib.hid (put3_grow hgw' Hqw.out.2.2.1 (.int .i64 0) (.slice none 0 0) (.slice none 0 0))
      clear hb2' hgw' hg6 Hd Ho
      go_wp2
      obtain ⟨wf, hwf⟩ : ∃ W, W = ((w6.setCell ⟨r, 0, none⟩ (.int .i64 0)).setCell ⟨r, 1, none⟩ (.slice none 0 0)).setCell ⟨r, 2, none⟩ (.slice none 0 0) := ⟨_, rfl⟩
      have Hf2 : Res3 wf r (.int .i64 0) (.slice none 0 0) (.slice none 0 0) := by rw [hwf]; exact Hfin.out
      have Hg2 : Grow w wf := by rw [hwf]; exact Hgf.out
      rw [← hwf]
      clear Hfin Hgf hwf r0 r1 r2 g0 g1 g2 lr
      obtain ⟨f0, f1, f2, f3⟩ := Hf2
      refine bodyPost_ret (v := .tuple #[nilC, .int .i64 23]) ?_ rfl (Hno.out 23 rfl Hdn.out _ _ rfl Hg2)
      rw [results_cell_tmp rfl]
      go_simp
end
end Go.Proofs.Ytfchjoejdijjeaa
