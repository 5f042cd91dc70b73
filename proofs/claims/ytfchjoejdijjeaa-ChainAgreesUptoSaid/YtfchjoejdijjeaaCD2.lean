/- Merged out of GG: helpers. -/
import Derived.Test.YtfchjoejdijjeaaCC2
set_option linter.unusedSimpArgs false
set_option linter.unusedVariables false
/- The law's world: a move. -/
namespace Go.Proofs.Ytfchjoejdijjeaa
open Go.RowKit Go.Gl Go.Wal Go.Ch Go.Shelf
section
variable {C : Type} {f : C → List UInt8} {w wr w' w2 : World} {wb P L K : Nat} {W : Wd C}
abbrev F0 (w : World) (x : Nat) : Prop := w.heap.size ≤ x
/-- What a move leaves. -/
def StPost (f : C → List UInt8) (w : World) (wb P L K : Nat) (W' : Wd C) (e : Ending) (w' : World) : Prop :=
  e = .returned (.tuple #[]) ∧ Wt f (F0 w) w wb P L K W' w'
theorem Wt.base (h : Wt f (F0 w) w wb P L K W wr) : Grow w wr := by
  obtain ⟨V, ps, _, _, _, s⟩ := h
  exact ⟨s.os, s.tape, s.output, s.size, fun b hb => s.out b hb (by unfold F0; omega)⟩
end
section
variable {C : Type} [DecidableEq C] {f : C → List UInt8} {w wr w' w2 : World} {wb P L K : Nat} {W : Wd C}
set_option maxRecDepth 1000000 in
set_option maxHeartbeats 8000000 in
theorem wstep_any (h : Wt f (F0 w) w wb P L K W wr) (hP0 : 0 < P) (hP : P ≤ 16) (hL : L ≤ 70000) (hK : K ≤ 800000) (hf : ∀ c, (f c).length ≤ 1048576) {m : Turn} {c : C} {ua : Option Addr} {uc : Nat} (hv : Bv w (.slice ua (f c).length uc) (f c))
    (hb : W.bag.length ≤ 700000) (hbi : ∀ n ∈ W.births, n ≤ 999999) (hok : (W.stepM m c).ok = true) :
    Calls Try.prog 9 #[.pointer (some ⟨wb, 0, none⟩), .agg #[.int .i64 m.op, .int .i64 m.node, .int .i64 m.n, .slice ua (f c).length uc]] wr (StPost f w wb P (L + 1) (K + 1) (W.stepM m c)) := by
  obtain ⟨op, node, n, bs⟩ := m
  obtain ⟨ul, hul⟩ : ∃ k, (f c).length = k := ⟨_, rfl⟩
  rw [hul] at hv ⊢
  have hga : Grow wr (wr.alloc (.cells #[.int .i64 op, .int .i64 node, .int .i64 n, .slice ua ul uc] 30)) := Grow.alloc _ _
  have hma := heap_alloc_new wr (.cells #[.int .i64 op, .int .i64 node, .int .i64 n, .slice ua ul uc] 30)
  obtain ⟨mb, hmb⟩ : ∃ m, m = wr.heap.size := ⟨_, rfl⟩
  rw [← hmb] at hma
  have hgd := hga.trans (Grow.drew _)
  have hmd := (Grow.drew _).heap hma
  have H := Lib.hid (h.grow hgd)
  have Hv := Lib.hid hv
  have Hb := Lib.hid hb
  have Hbi := Lib.hid hbi
  have Hok := Lib.hid hok
  have Hmd := Lib.hid hmd
  have Hul := Lib.hid hul
  clear h hv hb hbi hok hma hmd hgd hga hul
  obtain ⟨WP, hWP⟩ : ∃ X, W.stepM ⟨op, node, n, bs⟩ c = X := ⟨_, rfl⟩
  rw [hWP]
  have HWP := Lib.hid hWP
  clear hWP
  go_enter Try.func9, Try.ntmps9
  go_upto_region 1 with fail
  rw [← hmb]
  generalize wr.alloc (.cells #[.int .i64 op, .int .i64 node, .int .i64 n, .slice ua ul uc] 30) = w1 at *
  clear hmb
  obtain ⟨lw, ⟨na, nc, n0⟩, _⟩ := H.out.read
  have hmd := Hmd.out
  have lm := lt_of_getElem? hmd
  have x1 : w1.drew.cell? ⟨mb, 1, none⟩ = some (.int .i64 node) := by simp [World.cell?, hmd]
  have Hpl := Lib.hid (wplace_any (n := node) hP0 (by omega) w1.drew)
  clear hmd
  refine wp_region_row (fun Wx => wb < Wx.heap.size ∧ Wx.cell? ⟨wb, 0, none⟩ = some (.slice na P nc) ∧ mb < Wx.heap.size ∧ Wx.cell? ⟨mb, 1, none⟩ = some (.int .i64 node)) [7] (by kernel_rfl) (fun c a d v w h => by cases d <;> exact h) ⟨lw, n0, lm, x1⟩ ?_
  generalize w1.drew = w2 at *
  simp only [inRow]
  repeat ((first | (apply wpPi_quiet; rfl; rintro W ⟨hW0, hW1, hW2, hW3⟩; go_simp; with_reducible rfl) | (apply wpPi_off; rfl)); simp only [putA, List.set])
  refine wpPi_call (by rfl) (by go_simp) Hpl.out ?_
  rintro e w3 ⟨rfl, hw3⟩
  have hw4 := hw3.symm
  subst hw4
  clear hw3 Hpl
  refine ⟨_, rfl, ⟨lw, n0, lm, x1⟩, ?_⟩
  try first | simp only [putA, List.set] | simp only [putN]
  repeat ((first | (apply wpPi_quiet; rfl; rintro W ⟨hW0, hW1, hW2, hW3⟩; go_simp; with_reducible rfl) | (apply wpPi_off; rfl)); simp only [putA, List.set])
  refine wpPi_nil ?_
  have hi : placeN node P < P := placeN_lt hP0
  obtain ⟨i, hii⟩ : ∃ i, placeN node P = i := ⟨_, rfl⟩
  rw [hii] at hi ⊢
  have Hii := Lib.hid hii
  clear hii n0 x1
  have hnl := H.out.nds
  have hmd := Hmd.out
  have q0 : w2.cell? ⟨mb, 0, none⟩ = some (.int .i64 op) := by simp [World.cell?, hmd]
  have q2 : w2.cell? ⟨mb, 2, none⟩ = some (.int .i64 n) := by simp [World.cell?, hmd]
  have q3 : w2.cell? ⟨mb, 3, none⟩ = some (.slice ua ul uc) := by simp [World.cell?, hmd]
  clear hmd
  have hc : (op = 2 ∨ op = 3 ∨ op = 4) ∨ op = 1 ∨ op = 5 ∨ op = 6 ∨ op = 7 ∨ op = 8 ∨ op = 9 ∨ op = 10 ∨ op = 11 ∨ (op ≤ 0 ∨ 12 ≤ op) := by omega
  rcases hc with hop | rfl | rfl | rfl | rfl | rfl | rfl | rfl | rfl | hc
  · have g1 : decide ((2 : Int) ≤ op) = true := by simp; omega
    have g2 : decide (op ≤ (4 : Int)) = true := by simp; omega
    have Hop := Lib.hid hop
    obtain ⟨_, _, ⟨ga, gc, n3⟩, _⟩ := H.out.read
    have Hnl := Lib.hid hnl
    have Hb2 := Lib.hid (show W.bag.length ≤ 700000 from Hb.out)
    obtain ⟨bl, hbl⟩ : ∃ b, W.bag.length = b := ⟨_, rfl⟩
    rw [hbl] at n3 Hb2
    have Hbl := Lib.hid hbl
    clear hop hnl hbl q3
    by_cases hz : bl = 0
    · have hst : WP = W := by
        rw [← HWP.out]
        unfold Wd.stepM
        simp only
        rw [if_pos (by have := Hop.out; omega), if_pos (by rw [Hbl.out, hz])]
      have hpost : StPost f w wb P (L + 1) (K + 1) WP (.returned (.tuple #[])) w2 := ⟨rfl, by rw [hst]; exact H.out.up (Nat.le_succ _) (Nat.le_succ _)⟩
      have hz1 : ((bl : Int) == 0) = true := by simp; omega
      subst hz
      clear hst
      go_wp2_with fail
      exact ⟨rfl, .tuple #[], by simp [results, Try.results9, go_sem], hpost⟩
    · have hz1 : ((bl : Int) == 0) = false := by simp; omega
      have hq : placeN n bl < bl := placeN_lt (by omega)
      have hpl := wplace_any (n := n) (m := bl) (by omega) (by have := Hb2.out; omega) w2.drew
      obtain ⟨q, hqq⟩ : ∃ q, placeN n bl = q := ⟨_, rfl⟩
      rw [hqq] at hpl hq
      have Hpl := Lib.hid hpl
      have Hq := Lib.hid hq
      have p2 := (Grow.drew w2).cell (p := ⟨mb, 2, none⟩) lm
      have p0 := (Grow.drew w2).cell (p := ⟨mb, 0, none⟩) lm
      have p3 := (Grow.drew w2).cell (p := ⟨wb, 3, none⟩) lw
      rw [q2] at p2
      rw [q0] at p0
      rw [n3] at p3
      have lm4 : mb < w2.drew.heap.size := lm
      have lw4 : wb < w2.drew.heap.size := lw
      have Hqq := Lib.hid hqq
      have H2 := Lib.hid (H.out.grow (Grow.drew w2))
      clear hpl hq hqq H q2
      go_wp2_with fail
      refine wp_region_row (fun Wx => wb < Wx.heap.size ∧ mb < Wx.heap.size ∧ Wx.cell? ⟨wb, 3, none⟩ = some (.slice ga bl gc) ∧ Wx.cell? ⟨mb, 2, none⟩ = some (.int .i64 n)) [7] (by kernel_rfl) (fun c a d v w h => by cases d <;> exact h) ⟨lw4, lm4, p3, p2⟩ ?_
      clear q0 n3 lw lm
      generalize w2.drew = w3 at *
      simp only [inRow]
      repeat ((first | (apply wpPi_quiet; rfl; rintro W ⟨hW0, hW1, hW2, hW3⟩; go_simp; with_reducible rfl) | (apply wpPi_off; rfl)); simp only [putA, List.set])
      refine wpPi_call (by rfl) (by go_simp) Hpl.out ?_
      rintro e w4 ⟨rfl, hw4⟩
      have hw5 := hw4.symm
      subst hw5
      refine ⟨_, rfl, ⟨lw4, lm4, p3, p2⟩, ?_⟩
      clear hw4 Hpl
      try first | simp only [putA, List.set] | simp only [putN]
      repeat ((first | (apply wpPi_quiet; rfl; rintro W ⟨hW0, hW1, hW2, hW3⟩; go_simp; with_reducible rfl) | (apply wpPi_off; rfl)); simp only [putA, List.set])
      refine wpPi_nil ?_
      have hop := Hop.out
      clear g1 g2 p2 hz hz1 Hop
      rcases hop with rfl | rfl | rfl
      · have hst : WP = W.deliver q := by
          rw [← HWP.out, ← Hqq.out, ← Hbl.out]
          unfold Wd.stepM
          simp only
          rw [if_pos (by decide), if_neg (by rw [Hbl.out]; have := Hq.out; omega), if_pos trivial]
        have hok : (W.deliver q).ok = true := by rw [← hst, ← HWP.out]; exact Hok.out
        have Hc := Lib.hid (H2.out.deliver (by omega) (by omega) hP hf (n := q) (by rw [Hbl.out]; exact Hq.out) hok)
        have Hst := Lib.hid hst
        clear hst hok p3 lm4 lw4
        go_wp2_with fail
        (with_reducible refine Hc.out.mono ?_)
        rintro e w5 ⟨rfl, h5⟩
        have hpost : StPost f w wb P (L + 1) (K + 1) WP (.returned (.tuple #[])) w5 := ⟨rfl, by rw [Hst.out]; exact h5.up (Nat.le_succ _) (Nat.le_succ _)⟩
        clear h5 Hc
        go_wp2
        exact ⟨rfl, .tuple #[], by simp [results, Try.results9, go_sem], hpost⟩
      · have hst : WP = W.drop q := by
          rw [← HWP.out, ← Hqq.out, ← Hbl.out]
          unfold Wd.stepM
          simp only
          rw [if_pos (by decide), if_neg (by rw [Hbl.out]; have := Hq.out; omega), if_neg (by decide), if_pos trivial]
        have hd1 := H2.out.grow (Grow.drew w3)
        obtain ⟨V, ps, h1, h2, h3, h4⟩ := hd1
        obtain ⟨g, c', ad, m1, c1, m2, c2, a1, a2, wa, wc, hgv, hlc, had, r1, r2, ⟨ka1, ka2⟩, k1, k2, k3, k4, k5, k6⟩ := h2.cutBag (n := q) (by rw [Hbl.out]; exact Hq.out) (by rw [Hbl.out]; have := Hb2.out; omega)
        rw [Hbl.out] at hgv hlc r2
        have n3 := h2.cells.2.2.2.1
        rw [hgv] at n3 ka2 k2
        have hpost := Lib.hid (show StPost f w wb P (L + 1) (K + 1) WP (.returned (.tuple #[])) _ from ⟨rfl, _, ps, h1, by rw [hst]; exact k4, by rw [hst]; exact (cap_drop h3 q).up (Nat.le_succ _) (Nat.le_succ _), h4.trans k5⟩)
        obtain ⟨np, hnp⟩ : ∃ m, m = q + 1 := ⟨_, rfl⟩
        rw [← hnp] at had r2
        have hnp1 : IntKind.i64.wrap (np : Int) = (np : Int) := IntWalk.i64_in _ (by have := Hb2.out; have := Hq.out; omega)
        have hnp2 : (q : Int) + 1 = (np : Int) := by omega
        have hq1 : (q : Int) < (bl : Int) := by have := Hq.out; omega
        have hs1 : q ≤ c' := by have := Hq.out; omega
        have hs2 : np ≤ bl := by have := Hq.out; omega
        have hs3 : bl ≤ c' := hlc
        have hs4 : np ≤ c' := by omega
        have hwl1 := h2.wlt
        have hwb1 : wb ≠ w3.drew.heap.size := by omega
        have Hr1 := Lib.hid r1
        have Hr2 := Lib.hid r2
        clear r1 r2 hnp k4 k5 k6 hst h1 h2 h3 h4 p3 lm4 lw4 hlc hgv
        go_wp2_with fail
        refine wp_region_last (fun Wx => Wx.cell? ⟨wb, 3, none⟩ = some (.slice (some ⟨g, 0, none⟩) bl c') ∧ wb < Wx.heap.size) [(0, false), (2, false), (3, false), (4, false), (5, false), (6, false), (7, false), (9, false), (10, false), (11, false), (12, false), (13, false), (14, false), (15, false), (1, true), (8, true), (16, true), (17, false), (18, false)] 19 (by kernel_rfl) (by kernel_rfl) (fun c a d v w h => by cases d <;> exact h) ⟨n3, hwl1⟩ ?_
        generalize w3.drew = wd at *
        simp only [arrange, nth]
        repeat ((first | (apply wpPi_quiet; rfl; rintro W ⟨hW0, hW1⟩; go_simp; with_reducible rfl) | (apply wpPi_off; rfl)); simp only [putA, List.set])
        refine wpPi_act (by rfl) (fun K hK => ?_)
        go_simp
        refine hK _ _ ⟨⟨by go_simp, by (go_simp <;> omega)⟩, ?_⟩
        clear hK K
        try first | simp only [putA, List.set] | simp only [putN]
        refine wpPi_run (by rfl) (execOp_append rfl rfl rfl Hr1.out) ⟨ka2, ka1⟩ ?_
        try first | simp only [putA, List.set] | simp only [putN]
        refine wpPi_run (by rfl) (execOp_append rfl rfl rfl Hr2.out) ⟨k2, k1⟩ ?_
        try first | simp only [putA, List.set] | simp only [putN]
        repeat ((first | (apply wpPi_quiet; rfl; rintro W ⟨hW0, hW1⟩; go_simp; with_reducible rfl) | (apply wpPi_off; rfl)); simp only [putA, List.set])
        refine wpPi_nil (lastQ_act (by rfl) (fun K hK => ?_))
        go_simp
        refine hK _ _ ?_
        clear hK K
        try first | simp only [putA, List.set] | simp only [putN]
        clear ka1 ka2 k1 k2 k3 n3 hwl1 hwb1 Hr1 Hr2 hs1 hs2 hs3 hs4 hnp1 hnp2 had
        go_wp2
        exact ⟨rfl, .tuple #[], by simp [results, Try.results9, go_sem], hpost.out⟩
      · have hst : WP = W.dup q := by
          rw [← HWP.out, ← Hqq.out, ← Hbl.out]
          unfold Wd.stepM
          simp only
          rw [if_pos (by decide), if_neg (by rw [Hbl.out]; have := Hq.out; omega), if_neg (by decide), if_neg (by decide)]
        have hd1 := H2.out.grow (Grow.drew w3)
        obtain ⟨V, ps, h1, h2, h3, h4⟩ := hd1
        obtain ⟨x, hx⟩ : ∃ x, W.bag[q]? = some x := ⟨W.bag[q]'(by rw [Hbl.out]; exact Hq.out), by simp [Hbl.out, Hq.out]⟩
        obtain ⟨g, gc', u, hgv, hgl, x0, x1, x2, hu⟩ := h2.bag.cell hx
        obtain ⟨ga2, gc2, rfl⟩ := hu.slice
        obtain ⟨v', wc, r1, k1, k2, k3, k4, k5, ⟨va, vc, rfl⟩, k6⟩ := h2.pushBag hu (by rw [Hbl.out]; have := Hb2.out; omega)
        rw [Hbl.out] at hgv
        have n3 := h2.cells.2.2.2.1
        rw [hgv] at n3 k2 r1
        have hdp : W.dup q = { W with bag := W.bag ++ [x] } := by unfold Wd.dup; rw [hx]
        have hpost := Lib.hid (show StPost f w wb P (L + 1) (K + 1) WP (.returned (.tuple #[])) _ from ⟨rfl, _, ps, h1, by rw [hst, hdp]; exact k4, by rw [hst]; exact (cap_dup h3 (n := q) (by rw [Hbl.out]; have := Hb2.out; omega)).up (Nat.le_succ _) (Nat.le_succ _), h4.trans k5⟩)
        have hq1 : (q : Int) < (bl : Int) := by have := Hq.out; omega
        have hwl1 := h2.wlt
        have hwb1 : wb ≠ w3.drew.heap.size := by omega
        have Hr1 := Lib.hid r1
        obtain ⟨bm, hbm⟩ : ∃ m, W.bag.length + 1 = m := ⟨_, rfl⟩
        rw [hbm] at hpost Hr1
        clear r1 hst h1 h2 h3 h4 p3 lm4 lw4 hgv hu hx k4 k5 k6 hdp hbm
        go_wp2_with fail
        refine wp_region_last (fun Wx => Wx.cell? ⟨wb, 3, none⟩ = some (.slice (some ⟨g, 0, none⟩) bl gc') ∧ wb < Wx.heap.size) [(0, false), (1, false), (2, false), (3, false), (4, false), (5, false), (6, false), (7, false), (8, false), (9, false), (10, false), (11, true), (12, true), (13, true), (14, false), (15, false)] 16 (by kernel_rfl) (by kernel_rfl) (fun c a d v w h => by cases d <;> exact h) ⟨n3, hwl1⟩ ?_
        generalize w3.drew = wd at *
        simp only [arrange, nth]
        repeat ((first | (apply wpPi_quiet; rfl; rintro W ⟨hW0, hW1⟩; go_simp; with_reducible rfl) | (apply wpPi_off; rfl)); simp only [putA, List.set])
        refine wpPi_act (by rfl) (fun K hK => ?_)
        go_simp
        refine hK _ _ ⟨⟨n3, hwl1⟩, ?_⟩
        clear hK K
        try first | simp only [putA, List.set] | simp only [putN]
        refine wpPi_act (by rfl) (fun K hK => ?_)
        go_simp
        refine hK _ _ ⟨⟨by go_simp, by (go_simp <;> omega)⟩, ?_⟩
        clear hK K
        try first | simp only [putA, List.set] | simp only [putN]
        refine wpPi_run (by rfl) (execOp_append rfl rfl rfl Hr1.out) ⟨k2, k1⟩ ?_
        try first | simp only [putA, List.set] | simp only [putN]
        repeat ((first | (apply wpPi_quiet; rfl; rintro W ⟨hW0, hW1⟩; go_simp; with_reducible rfl) | (apply wpPi_off; rfl)); simp only [putA, List.set])
        refine wpPi_nil (lastQ_act (by rfl) (fun K hK => ?_))
        go_simp
        refine hK _ _ ?_
        clear hK K
        try first | simp only [putA, List.set] | simp only [putN]
        clear k1 k2 k3 Hr1 x0 x1 x2 hgl n3 hwl1
        go_wp2
        exact ⟨rfl, .tuple #[], by simp [results, Try.results9, go_sem], hpost.out⟩
  · have hst : WP = W.submit i c := by rw [← HWP.out, ← Hii.out, ← hnl]; rfl
    have hok : (W.submit i c).ok = true := by rw [← hst, ← HWP.out]; exact Hok.out
    have Hc : Hid (Calls Try.prog 13 #[.pointer (some ⟨wb, 0, none⟩), .int .i64 (i : Int), .slice ua ul uc] w2 fun e w' => e = .returned (.bool (takes (W.nd i) (W.box i))) ∧ Wt f (F0 w) w wb P (L + 1) K (W.submit i c) w') := Lib.hid (H.out.submit (by omega) hP hf hi (fun V ps _ hs => bw_in Hv.out hs) hok)
    have Hst := Lib.hid hst
    clear hst hok hnl q2
    go_wp2_with fail
    (with_reducible refine Hc.out.mono ?_)
    rintro e w5 ⟨rfl, h5⟩
    have hpost : StPost f w wb P (L + 1) (K + 1) WP (.returned (.tuple #[])) w5 := ⟨rfl, by rw [Hst.out]; exact h5.up (Nat.le_refl _) (Nat.le_succ _)⟩
    clear h5 Hc
    go_wp2
    exact ⟨rfl, .tuple #[], by simp [results, Try.results9, go_sem], hpost⟩
  · have hst : WP = W.beat i := by rw [← HWP.out, ← Hii.out, ← hnl]; rfl
    have hok : (W.beat i).ok = true := by rw [← hst, ← HWP.out]; exact Hok.out
    obtain ⟨g, gc, nb, k1, k2, k3, k4, ms, hbt, htl⟩ := H.out.beat (by omega) hP hf hi hok
    have hi1 : (i : Int) < (P : Int) := by omega
    have Hst := Lib.hid hst
    have Hbt := Lib.hid hbt
    have Htl := Lib.hid htl
    clear hst hok hnl q2 q3 hbt htl
    go_wp2_with fail
    (with_reducible refine Hbt.out.mono ?_)
    rintro e w4 ⟨v, rfl, hv, hg4⟩
    have Ht := Lib.hid (Htl.out v w4 hv hg4)
    obtain ⟨va, vc, rfl⟩ := hv.slice
    clear hv hg4 Hbt Htl k1 k2 k3 k4
    go_wp2_with fail
    (with_reducible refine Ht.out.mono ?_)
    rintro e w5 ⟨rfl, h5⟩
    have hpost : StPost f w wb P (L + 1) (K + 1) WP (.returned (.tuple #[])) w5 := ⟨rfl, by rw [Hst.out]; exact h5.up (Nat.le_succ _) (Nat.le_succ _)⟩
    clear h5 Ht
    go_wp2
    exact ⟨rfl, .tuple #[], by simp [results, Try.results9, go_sem], hpost⟩
  · have hst : WP = W.anew i := by rw [← HWP.out, ← Hii.out, ← hnl]; rfl
    have Hc := Lib.hid (H.out.anew hP hi)
    have Hst := Lib.hid hst
    clear hst hnl q2 q3
    go_wp2_with fail
    (with_reducible refine Hc.out.mono ?_)
    rintro e w5 ⟨rfl, h5⟩
    have hpost : StPost f w wb P (L + 1) (K + 1) WP (.returned (.tuple #[])) w5 := ⟨rfl, by rw [Hst.out]; exact h5.up (Nat.le_succ _) (Nat.le_succ _)⟩
    clear h5 Hc
    go_wp2
    exact ⟨rfl, .tuple #[], by simp [results, Try.results9, go_sem], hpost⟩
  · have hst : WP = W.lose i := by rw [← HWP.out, ← Hii.out, ← hnl]; rfl
    obtain ⟨n0', gb, bc, gx, xc, u, w4, l0, k1, k2, k3, k4, k5, hw4, k6, k7, k8, k9, k10, hc⟩ := H.out.losing hP hi Hbi.out
    have hi1 : (i : Int) < (P : Int) := by omega
    have hwr : IntKind.i64.wrap ((n0' : Int) + 1) = (n0' : Int) + 1 := IntWalk.i64_in _ (by omega)
    have Hc := Lib.hid (hc ((w4.setCell ⟨gx, i, none⟩ (.pointer (some ⟨w4.heap.size, 0, none⟩))).alloc (.cells #[.slice none 0 0, .int .u64 0, .int .i64 0, .bool false, .bool false] 47)) (by simp [go_sem, k7]))
    have Hst := Lib.hid hst
    clear hst hnl q2 q3 hc l0
    go_wp2_with fail
    (with_reducible refine Hc.out.mono ?_)
    rintro e w5 ⟨rfl, h5⟩
    have hpost : StPost f w wb P (L + 1) (K + 1) WP (.returned (.tuple #[])) w5 := ⟨rfl, by rw [Hst.out]; exact h5.up (Nat.le_succ _) (Nat.le_succ _)⟩
    clear h5 Hc hw4 k1 k2 k3 k4 k5 k6 k7 k8 k9 k10
    go_wp2
    exact ⟨rfl, .tuple #[], by simp [results, Try.results9, go_sem], hpost⟩
  · have hlk : Hid (Wt f (F0 w) w wb P L K W (w2.alloc (.cells #[.int .i64 1, .int .i64 2, .int .i64 1, .int .i64 4] 3)).drew) := Lib.hid (H.out.grow ((Grow.alloc _ _).trans (Grow.drew _)))
    have hka := (Grow.drew _).heap (heap_alloc_new w2 (.cells #[.int .i64 1, .int .i64 2, .int .i64 1, .int .i64 4] 3))
    have hkm := ((Grow.alloc w2 (.cells #[.int .i64 1, .int .i64 2, .int .i64 1, .int .i64 4] 3)).trans (Grow.drew _)).cell (p := ⟨mb, 2, none⟩) lm
    rw [q2] at hkm
    obtain ⟨kb, hkb⟩ : ∃ k, k = w2.heap.size := ⟨_, rfl⟩
    rw [← hkb] at hka
    have Hka := Lib.hid hka
    have Hkm := Lib.hid hkm
    have Hnl := Lib.hid hnl
    clear hka hkm hnl q2 q3
    go_upto_region 24 with fail
    rw [← hkb]
    generalize w2.alloc (.cells #[.int .i64 1, .int .i64 2, .int .i64 1, .int .i64 4] 3) = w3 at *
    clear hkb q0
    obtain ⟨V, ps, h1, h2, h3, h4⟩ := hlk.out
    obtain ⟨p, d, b, bi, gn, gx, gb, hp, hd, hb, hbi, hnd, hr⟩ := h2.atRow (i := i) (by omega)
    obtain ⟨bc, e3⟩ := hr.bv
    obtain ⟨cur3, a3⟩ := hr.bh
    have q5 := hr.bc
    obtain ⟨_, _, n2, _⟩ := h2.cells
    rw [e3, h1] at n2
    have lw8 := h2.wlt
    have hbm := h3.bir bi (List.mem_of_getElem? hbi)
    have hbg : W.births.getD i 0 = bi := by rw [List.getD_eq_getElem?_getD, hbi]; rfl
    have hj : placeN n 4 < 4 := placeN_lt (by decide)
    have hst : WP = W.command ⟨kindM (placeN n 4), i, bi, 0⟩ := by rw [← HWP.out, ← hbg, ← Hii.out, ← Hnl.out]; rfl
    have Hpl : Hid (Calls Try.prog 17 #[.int .i64 n, .int .i64 4] w3.drew fun e w' => e = .returned (.int .i64 (placeN n 4 : Int)) ∧ w' = w3.drew) := Lib.hid (wplace_any (m := 4) (by decide) (by decide) w3.drew)
    obtain ⟨j, hjj⟩ : ∃ j, placeN n 4 = j := ⟨_, rfl⟩
    rw [hjj] at hj hst Hpl
    have hj1 : (j : Int) < 4 := by omega
    have hkc : w3.drew.cell? ⟨kb, j, none⟩ = some (.int .i64 ((kindM j : Nat) : Int)) := by
      have hh := Hka.out
      have : j = 0 ∨ j = 1 ∨ j = 2 ∨ j = 3 := by omega
      rcases this with rfl | rfl | rfl | rfl <;> simp [World.cell?, hh, kindM]
    obtain ⟨kd, hkd⟩ : ∃ k, kindM j = k := ⟨_, rfl⟩
    rw [hkd] at hkc hst
    have hkk : 1 ≤ kd ∧ kd ≤ 4 := by
      rw [← hkd]
      rcases Agr.kindM_ok j with h | h | h <;> omega
    have Hc : Hid (Calls Try.prog 11 #[.pointer (some ⟨wb, 0, none⟩), .agg #[.int .i64 (kd : Int), .int .i64 (i : Int), .int .i64 (bi : Int), .int .i64 0]] w3.drew fun e w' => e = .returned (.tuple #[]) ∧ Wt f (F0 w) w wb P L (K + 1) (W.command ⟨kd, i, bi, 0⟩) w') :=
      Lib.hid (hlk.out.command (by omega) ⟨hkk.1, hkk.2, by show i < 16; omega, hbm, Nat.zero_le _⟩)
    have Hst := Lib.hid hst
    have lk8 := lt_of_getElem? Hka.out
    have lg8 := lt_of_getElem? a3
    have lm8 := World.block_lt_of_cell? w3.drew _ Hkm.out
    have hkm := Hkm.out
    have hi1 : (i : Int) < (P : Int) := by omega
    clear hst hp hd hb hbi hnd hr h1 h2 h3 h4 a3 hbg hkd hjj hj e3 Hka Hkm
    refine wp_region_late (fun Wx => wb < Wx.heap.size ∧ mb < Wx.heap.size ∧ kb < Wx.heap.size ∧ gb < Wx.heap.size ∧ Wx.cell? ⟨wb, 2, none⟩ = some (.slice (some ⟨gb, 0, none⟩) P bc) ∧ Wx.cell? ⟨gb, i, none⟩ = some (numV bi) ∧ Wx.cell? ⟨kb, j, none⟩ = some (.int .i64 ((kd : Nat) : Int)) ∧ Wx.cell? ⟨mb, 2, none⟩ = some (.int .i64 n)) [(0, false), (1, false), (2, false), (3, false), (7, false), (8, false), (9, false), (10, false), (11, false), (12, false), (13, false), (14, false), (4, true), (5, false), (6, false), (15, false)] [16] #[true, true, true, true, true, true, true, true, true, true, true, true, true, true, true, true, false] 1 (by kernel_rfl) (by kernel_rfl) (fun c a d v w h => by cases d <;> exact h) ⟨lw8, lm8, lk8, lg8, n2, q5, hkc, hkm⟩ ?_
    generalize w3.drew = w4 at *
    simp only [arrange, nth]
    repeat ((first | (apply wpPi_quiet; rfl; rintro W ⟨hW0, hW1, hW2, hW3, hW4, hW5, hW6, hW7⟩; go_simp; with_reducible rfl) | (apply wpPi_off; rfl)); simp only [putA, List.set])
    refine wpPi_call (by rfl) (by go_simp) Hpl.out ?_
    rintro e w5 ⟨rfl, hw5⟩
    have hw6 := hw5.symm
    subst hw6
    refine ⟨_, rfl, ⟨lw8, lm8, lk8, lg8, n2, q5, hkc, hkm⟩, ?_⟩
    clear hw5 Hpl
    try first | simp only [putA, List.set] | simp only [putN]
    repeat ((first | (apply wpPi_quiet; rfl; rintro W ⟨hW0, hW1, hW2, hW3, hW4, hW5, hW6, hW7⟩; go_simp; with_reducible rfl) | (apply wpPi_off; rfl)); simp only [putA, List.set])
    refine wpPi_nil ?_
    refine lateQ_call (i := 16) (by kernel_rfl) rfl (by rfl) (by go_simp) Hc.out ?_
    rintro e w5 ⟨rfl, h5⟩
    have hpost : StPost f w wb P (L + 1) (K + 1) WP (.returned (.tuple #[])) w5 := ⟨rfl, by rw [Hst.out]; exact h5.up (Nat.le_succ _) (Nat.le_refl _)⟩
    clear h5 Hc lw8 lm8 lk8 lg8 n2 q5 hkc hkm
    refine ⟨_, rfl, ?_⟩
    try first | simp only [putA, List.set] | simp only [putN]
    refine lateQ_nil (by kernel_rfl) ?_
    go_wp2
    exact ⟨rfl, .tuple #[], by simp [results, Try.results9, go_sem], hpost⟩
  · obtain ⟨lw9, _, _, ⟨ca, cc, n4⟩, _, hc0, hc1, _, _⟩ := (H.out.grow (Grow.drew w2)).read
    have hj : placeN n W.cfgs.length < W.cfgs.length := placeN_lt hc0
    have hst : WP = W.configure i (placeN n W.cfgs.length) := by rw [← HWP.out, ← Hii.out, ← hnl]; rfl
    have hpl := wplace_any (n := n) hc0 (by omega) w2.drew
    obtain ⟨j, hjj⟩ : ∃ j, placeN n W.cfgs.length = j := ⟨_, rfl⟩
    rw [hjj] at hj hst hpl
    have hok : (W.configure i j).ok = true := by rw [← hst, ← HWP.out]; exact Hok.out
    have Hc := Lib.hid ((H.out.grow (Grow.drew w2)).configure (by omega) hP hf hi hj hok)
    have Hpl := Lib.hid hpl
    have Hst := Lib.hid hst
    have p2 := (Grow.drew w2).cell (p := ⟨mb, 2, none⟩) (World.block_lt_of_cell? w2 _ q2)
    rw [q2] at p2
    obtain ⟨cl, hcl⟩ : ∃ n, W.cfgs.length = n := ⟨_, rfl⟩
    rw [hcl] at n4 Hpl
    have lm9 : mb < w2.drew.heap.size := lm
    clear hst hok hnl q2 q3 hj hjj hpl hc0 hc1 hcl
    go_wp2_with fail
    refine wp_region_late (fun Wx => wb < Wx.heap.size ∧ mb < Wx.heap.size ∧ Wx.cell? ⟨wb, 4, none⟩ = some (.slice ca cl cc) ∧ Wx.cell? ⟨mb, 2, none⟩ = some (.int .i64 n)) [(0, false), (1, false), (2, false), (3, false), (4, false), (5, false), (6, false), (7, false), (8, false), (9, true)] [10] #[true, true, true, true, true, true, true, true, true, true, false] 1 (by kernel_rfl) (by kernel_rfl) (fun c a d v w h => by cases d <;> exact h) ⟨lw9, lm9, n4, p2⟩ ?_
    generalize w2.drew = w3 at *
    simp only [arrange, nth]
    repeat ((first | (apply wpPi_quiet; rfl; rintro W ⟨hW0, hW1, hW2, hW3⟩; go_simp; with_reducible rfl) | (apply wpPi_off; rfl)); simp only [putA, List.set])
    refine wpPi_call (by rfl) (by go_simp) Hpl.out ?_
    rintro e w4 ⟨rfl, hw4⟩
    have hw5 := hw4.symm
    subst hw5
    refine ⟨_, rfl, ⟨lw9, lm9, n4, p2⟩, ?_⟩
    clear hw4 Hpl
    try first | simp only [putA, List.set] | simp only [putN]
    refine wpPi_nil ?_
    refine lateQ_call (i := 10) (by kernel_rfl) rfl (by rfl) (by go_simp) Hc.out ?_
    rintro e w5 ⟨rfl, h5⟩
    have hpost : StPost f w wb P (L + 1) (K + 1) WP (.returned (.tuple #[])) w5 := ⟨rfl, by rw [Hst.out]; exact h5.up (Nat.le_succ _) (Nat.le_succ _)⟩
    clear h5 Hc lw9 lm9 n4 p2
    refine ⟨_, rfl, ?_⟩
    try first | simp only [putA, List.set] | simp only [putN]
    refine lateQ_nil (by kernel_rfl) ?_
    go_wp2
    exact ⟨rfl, .tuple #[], by simp [results, Try.results9, go_sem], hpost⟩
  · have hst : WP = W.whole i := by rw [← HWP.out, ← Hii.out, ← hnl]; rfl
    have Hc := Lib.hid (H.out.whole (by omega) hP hi)
    have Hst := Lib.hid hst
    clear hst hnl q2 q3
    go_wp2_with fail
    (with_reducible refine Hc.out.mono ?_)
    rintro e w5 ⟨rfl, h5⟩
    have hpost : StPost f w wb P (L + 1) (K + 1) WP (.returned (.tuple #[])) w5 := ⟨rfl, by rw [Hst.out]; exact h5.up (Nat.le_succ _) (Nat.le_refl _)⟩
    clear h5 Hc
    go_wp2
    exact ⟨rfl, .tuple #[], by simp [results, Try.results9, go_sem], hpost⟩
  · have hst : WP = W.flip i := by rw [← HWP.out, ← Hii.out, ← hnl]; rfl
    obtain ⟨gx, xc, bb, bq, k1, k2, k3, k4, k5, k6, k7, h5⟩ := (H.out.grow (Grow.drew w2)).flipping hi
    have hi1 : (i : Int) < (P : Int) := by omega
    have hpost := Lib.hid (show StPost f w wb P (L + 1) (K + 1) WP (.returned (.tuple #[])) _ from ⟨rfl, by rw [hst]; exact h5.up (Nat.le_succ _) (Nat.le_succ _)⟩)
    clear hst hnl q2 q3 h5
    go_wp2_with fail
    refine wp_region_last (fun Wx => wb < Wx.heap.size ∧ gx < Wx.heap.size ∧ bb < Wx.heap.size ∧ Wx.cell? ⟨wb, 1, none⟩ = some (.slice (some ⟨gx, 0, none⟩) P xc) ∧ Wx.cell? ⟨gx, i, none⟩ = some (.pointer (some ⟨bb, 0, none⟩)) ∧ Wx.cell? ⟨bb, 4, none⟩ = some (.bool bq)) [(0, false), (1, false), (2, false), (3, false), (4, false), (5, false), (6, false), (7, false), (8, false), (9, false), (10, false), (11, false), (12, false), (13, false), (14, false), (15, false), (16, false), (17, false), (18, false), (19, false)] 20 (by kernel_rfl) (by kernel_rfl) (fun c a d v w h => by cases d <;> exact h) ⟨k1, k2, k3, k4, k5, k6⟩ ?_
    generalize w2.drew = w3 at *
    simp only [arrange, nth]
    repeat ((first | (apply wpPi_quiet; rfl; rintro W ⟨hW0, hW1, hW2, hW3, hW4, hW5⟩; go_simp; with_reducible rfl) | (apply wpPi_off; rfl)); simp only [putA, List.set])
    refine wpPi_nil (lastQ_act (by rfl) (fun K hK => ?_))
    go_simp
    refine hK _ _ ?_
    clear hK K
    try first | simp only [putA, List.set] | simp only [putN]
    clear k1 k2 k3 k4 k5 k6 k7
    go_wp2
    exact ⟨rfl, .tuple #[], by simp [results, Try.results9, go_sem], hpost.out⟩
  · have hst : WP = W := by
      rw [← HWP.out]
      unfold Wd.stepM
      simp only
      rw [if_neg (by omega), if_neg (by omega), if_neg (by omega), if_neg (by omega), if_neg (by omega), if_neg (by omega), if_neg (by omega), if_neg (by omega), if_neg (by omega)]
    have hpost : StPost f w wb P (L + 1) (K + 1) WP (.returned (.tuple #[])) w2 := ⟨rfl, by rw [hst]; exact H.out.up (Nat.le_succ _) (Nat.le_succ _)⟩
    have e1 : (op == 1) = false := by simp; omega
    have e5 : (op == 5) = false := by simp; omega
    have e6 : (op == 6) = false := by simp; omega
    have e7 : (op == 7) = false := by simp; omega
    have e8 : (op == 8) = false := by simp; omega
    have e9 : (op == 9) = false := by simp; omega
    have e10 : (op == 10) = false := by simp; omega
    have e11 : (op == 11) = false := by simp; omega
    have d1 : ¬ op = 1 := by omega
    have d5 : ¬ op = 5 := by omega
    have d6 : ¬ op = 6 := by omega
    have d7 : ¬ op = 7 := by omega
    have d8 : ¬ op = 8 := by omega
    have d9 : ¬ op = 9 := by omega
    have d10 : ¬ op = 10 := by omega
    have d11 : ¬ op = 11 := by omega
    clear hst hnl q2 q3
    rcases hc with hc | hc
    · have g1 : decide ((2 : Int) ≤ op) = false := by simp; omega
      clear hc
      go_wp2_with fail
      exact ⟨rfl, .tuple #[], by simp [results, Try.results9, go_sem], hpost⟩
    · have g1 : decide ((2 : Int) ≤ op) = true := by simp; omega
      have g2 : decide (op ≤ (4 : Int)) = false := by simp; omega
      clear hc
      go_wp2_with fail
      exact ⟨rfl, .tuple #[], by simp [results, Try.results9, go_sem], hpost⟩
end
end Go.Proofs.Ytfchjoejdijjeaa
