/- Merged out of EG, EH, EI: helpers. -/
import Derived.Test.YtfchjoejdijjeaaCL
set_option linter.unusedSimpArgs false
set_option linter.unusedVariables false
/- A node: all state is taken in. -/
namespace Go.Proofs.Ytfchjoejdijjeaa
open Go.RowKit Go.Gl Go.Wal Go.Ch Go.Shelf
section
variable {C : Type} {f : C → List UInt8} {N : Nat → Prop} {w w' w1 : World} {nb bb : Nat} {cv cfv sv : Value} {d : Nd} {b : Box C}

set_option maxRecDepth 100000 in
set_option maxHeartbeats 8000000 in
theorem recv_state (h : NdAt f N w nb bb cv cfv sv d b) (hf : ∀ c, (f c).length ≤ 1048576) {src dst ep a : Nat} {l : List C} (hl : l.length ≤ 100000) (hal : a ≤ l.length) {mv : Value} (hmv : Bw N w mv (hdrD 4 ep 0 ++ bytesD (saveD f a l))) (hep : ep ≤ 1099511627776) (hds : dst = d.self) (hhas : d.has = true) (hee : ep = d.cfg.epoch) (hm : d.member.isSome = true) :
    Calls Try.prog 31 #[.pointer (some ⟨nb, 0, none⟩), .agg #[.int .i64 (src : Int), .int .i64 (dst : Int), mv]] w (OutPost f N w nb bb cv (if fromM d.ahead src = true then stateM d b a l else ⟨d, b, [], []⟩)) := by
  obtain ⟨kd, hkd⟩ : ∃ k : Nat, k = 4 := ⟨_, rfl⟩
  have hk1 : 1 ≤ kd := by omega
  have hk4 : kd ≤ 4 := by omega
  obtain ⟨ix, hix0⟩ : ∃ k : Nat, k = 0 := ⟨_, rfl⟩
  rw [← hix0] at hmv
  have hix : ix ≤ 1000000 := by omega
  have hp : (saveD f a l).length ≤ 500000000000 := by have := save_len hf a hl; omega
  rw [← hkd] at hmv
  obtain ⟨p, hpc⟩ : ∃ p, p = saveD f a l := ⟨_, rfl⟩
  rw [← hpc] at hmv hp
  have Hpc := Lib.hid hpc
  obtain ⟨O, hO⟩ : ∃ o, (if fromM d.ahead src = true then stateM d b a l else ⟨d, b, [], []⟩) = o := ⟨_, rfl⟩
  rw [hO]
  have HO := Lib.hid hO
  have Hkd := Lib.hid hkd
  clear hO hkd hpc hix0
  have H := Lib.hid h
  have hgx : Grow w (w.alloc (.cells #[.int .i64 (src : Int), .int .i64 (dst : Int), mv] 62)) := Grow.alloc _ _
  have Hx := Lib.hid (heap_alloc_new w (.cells #[.int .i64 (src : Int), .int .i64 (dst : Int), mv] 62))
  have Hgx := Lib.hid hgx
  have Hrd := Lib.hid (read_any (hmv.1.grow hgx) hk1 hk4 hep (show ix ≤ 1000000000 by omega) hp)
  obtain ⟨ML, hML⟩ : ∃ n, (hdrD kd ep ix ++ bytesD p).length = n := ⟨_, rfl⟩
  obtain ⟨ma, mc, rfl⟩ := hmv.slice
  rw [hML] at Hx Hgx Hrd ⊢
  obtain ⟨PM, hPM⟩ : ∃ M, d.member.getD zeroM = M := ⟨_, rfl⟩
  obtain ⟨own, hown⟩ : ∃ s, d.member.isSome = s := ⟨_, rfl⟩
  have Hpm := Lib.hid hPM
  have Hown := Lib.hid hown
  clear h hmv hML hPM hown hgx
  have Hds := Lib.hid hds
  have Hee := Lib.hid hee
  have Hhas := Lib.hid hhas
  have Hmm := Lib.hid hm
  clear hds hee hhas hm
  go_enter Try.func31, Try.ntmps31
  go_wp2_with fail
  (with_reducible refine Hrd.out.mono ?_)
  rintro e w2 ⟨v, rfl, hv, hg2⟩
  have hgs : Grow w2 (w2.alloc (.cells #[.int .i64 (kd : Int), .int .i64 (ep : Int), .int .u64 (ix : Int), v] 108)) := Grow.alloc _ _
  have hrc : RcW w (w2.alloc (.cells #[.int .i64 (kd : Int), .int .i64 (ep : Int), .int .u64 (ix : Int), v] 108)) w2.heap.size src dst kd ep ix (.slice ma ML mc) v := ⟨(hg2.trans hgs).heap Hx.out, heap_alloc_new w2 _⟩
  have Hrc := Lib.hid hrc
  have Hg3 := Lib.hid ((Hgx.out.trans hg2).trans hgs)
  have Hv := Lib.hid (hv.bw (N := fun x => w.heap.size ≤ x) (fun x h1 _ => Nat.le_trans Hgx.out.size h1) |>.grow hgs)
  obtain ⟨va, vc, rfl⟩ := hv.slice
  have hn3 := H.out.grow Hg3.out
  have hl3 := hn3.lt
  have Hm := Lib.hid (om_split (pmember_any hn3.pl) Hpm.out Hown.out)
  have hsb : w.heap.size ≤ w2.heap.size := (Hgx.out.trans hg2).size
  clear hv hg2 hgs hrc Hrd hn3 Hx Hgx
  go_wp2_with fail
  generalize w2.heap.size = sb at *
  (with_reducible refine Hm.out.mono ?_)
  rintro e w4 ⟨rfl, hg4⟩
  have hgm := hg4.trans (Grow.alloc w4 (.cells #[.int .i64 (PM.node : Int), .int .i64 (PM.birth : Int), .bool PM.whole] 71))
  have Hrc5 := Lib.hid (Hrc.out.grow hgm)
  have Hg5 := Lib.hid (Hg3.out.trans hgm)
  have Hv5 := Lib.hid (Hv.out.grow hgm)
  clear hgm hg4 Hm Hg3 Hrc Hv
  go_upto_region 3 with fail
  generalize w4.alloc (.cells #[.int .i64 (PM.node : Int), .int .i64 (PM.birth : Int), .bool PM.whole] 71) = w5 at *
  have hn5 := H.out.grow Hg5.out
  obtain ⟨lx, x0, x1⟩ := Hrc5.out.xc
  obtain ⟨ls, s0, s1, s2, s3⟩ := Hrc5.out.sc
  have k0 := hn5.pl.c0
  have k3 := hn5.pl.c3
  have k5 := hn5.pl.c5
  have l5 := hn5.lt
  clear hn5

  have b1 : ((dst : Int) != (d.self : Int)) = false := by simp [Hds.out]
  have b3 : ((ep : Int) != (d.cfg.epoch : Int)) = false := by simp [Hee.out]
  rw [Hhas.out] at k5
  obtain rfl : own = true := by rw [← Hown.out]; exact Hmm.out
  obtain ⟨⟨an, ab, aw⟩, hA⟩ : ∃ M, d.ahead.getD zeroM = M := ⟨_, rfl⟩
  obtain ⟨ah, hah⟩ : ∃ s, d.ahead.isSome = s := ⟨_, rfl⟩
  obtain ⟨⟨en, eb, ew⟩, hE⟩ : ∃ M, d.behind.getD zeroM = M := ⟨_, rfl⟩
  obtain ⟨es, hes⟩ : ∃ s, d.behind.isSome = s := ⟨_, rfl⟩
  have Hah := Lib.hid (om_split (nahead_any (H.out.grow (Hg5.out.trans (Grow.drew w5)))) hA hah)
  have HA := Lib.hid hA
  have HAS := Lib.hid hah
  have HE := Lib.hid hE
  have HES := Lib.hid hes
  clear hA hah hE hes
  refine wp_region_row (fun W => W = w5.drew) [] (by kernel_rfl) (fun c a d v w h => by cases d <;> exact h) rfl ?_
  have Hrc6 := Lib.hid (Hrc5.out.grow (Grow.drew w5))
  have Hv6 := Lib.hid (Hv5.out.grow (Grow.drew w5))
  have Hg6 := Lib.hid (Hg5.out.trans (Grow.drew w5))
  simp only [inRow]
  repeat ((first | (apply wpPi_quiet; rfl; rintro W rfl; go_simp; with_reducible rfl) | (apply wpPi_off; rfl)); simp only [putA, List.set])
  refine wpPi_nil ?_
  clear k0 k3 k5 b1 b3 Hrc5 Hv5 Hg5 lx x0 x1 ls s0 s1 s2 s3 l5
  generalize w5.drew = w6 at *
  have l6 := (H.out.grow Hg6.out).lt
  go_wp2_with fail
  (with_reducible refine Hah.out.mono ?_)
  rintro e w7 ⟨rfl, hg7⟩
  have hga := heap_alloc_new w7 (.cells #[.int .i64 (an : Int), .int .i64 (ab : Int), .bool aw] 71)
  have hg7' := hg7.trans (Grow.alloc w7 (.cells #[.int .i64 (an : Int), .int .i64 (ab : Int), .bool aw] 71))
  have Hga := Lib.hid hga
  have Hrc7 := Lib.hid (Hrc6.out.grow hg7')
  have Hv7 := Lib.hid (Hv6.out.grow hg7')
  have Hg7 := Lib.hid (Hg6.out.trans hg7')
  have Hbe := Lib.hid (om_split (nbehind_any (H.out.grow Hg7.out)) HE.out HES.out)
  have l7 := (H.out.grow Hg7.out).lt
  clear hg7 hg7' hga Hrc6 Hv6 Hg6 Hah l6
  go_wp2_with fail
  generalize hab : w7.heap.size = ga at *
  clear hab
  (with_reducible refine Hbe.out.mono ?_)
  rintro e w8 ⟨rfl, hg8⟩
  have hgb := heap_alloc_new w8 (.cells #[.int .i64 (en : Int), .int .i64 (eb : Int), .bool ew] 71)
  have hg8' := hg8.trans (Grow.alloc w8 (.cells #[.int .i64 (en : Int), .int .i64 (eb : Int), .bool ew] 71))
  have Hga8 := Lib.hid (hg8'.heap Hga.out)
  have Hgb8 := Lib.hid hgb
  have Hrc8 := Lib.hid (Hrc7.out.grow hg8')
  have Hv8 := Lib.hid (Hv7.out.grow hg8')
  have Hg8 := Lib.hid (Hg7.out.trans hg8')
  clear hg8 hg8' hgb Hrc7 Hv7 Hg7 Hbe Hga l7
  go_upto_region 7 with fail
  generalize w8.alloc (.cells #[.int .i64 (en : Int), .int .i64 (eb : Int), .bool ew] 71) = w9 at *
  generalize w8.heap.size = gb at *
  have hn9 := H.out.grow Hg8.out
  have l9 := hn9.lt
  obtain ⟨lx, x0, x1⟩ := Hrc8.out.xc
  obtain ⟨ls, s0, s1, s2, s3⟩ := Hrc8.out.sc
  obtain ⟨la, a0⟩ := mem_cells Hga8.out
  obtain ⟨lb, e0⟩ := mem_cells Hgb8.out
  have k1 : ((kd : Int) == 1) = false := by have := Hkd.out; simp; omega
  have k4 : ((kd : Int) == 4) = true := by have := Hkd.out; simp; omega
  have k2 : ((kd : Int) == 2) = false := by have := Hkd.out; simp; omega
  have k3 : ((kd : Int) == 3) = false := by have := Hkd.out; simp; omega
  obtain ⟨bt, hbt⟩ : ∃ q, ((src : Int) == (an : Int)) = q := ⟨_, rfl⟩
  have hfm : fromM d.ahead src = (ah && bt) := by
    have h1 := HA.out; have h2 := HAS.out
    unfold fromM
    cases ho : d.ahead with
    | none => rw [ho] at h2; cases h2; rfl
    | some m =>
      rw [ho] at h1 h2; cases h1; cases h2
      rw [← hbt]
      by_cases hs : src = an <;> simp [hs]
      omega
  rw [hfm] at HO
  clear hfm
  cases hgo : (ah && bt) with
  | false =>
    have he : O = ⟨d, b, [], []⟩ := by rw [← HO.out, hgo]; rfl
    subst he
    cases ah <;> cases bt
    all_goals first | (exfalso; revert hgo; decide) | skip
    all_goals
      clear hgo
      have Hq := Lib.hid (OutPost.same H.out Hg8.out)
      clear hn9
      go_wp2
      go_ret2
      exact Hq.out
  | true =>
    obtain ⟨rfl, rfl⟩ : ah = true ∧ bt = true := by simpa using hgo
    have Hee : Hid (O = stateM d b a l) := Lib.hid (by rw [← HO.out]; rfl)
    have hnw := hn9.mono (fun x hx _ => nw_in H.out x hx) (nw_apart H.out.apart (Sep.ofGrow (F := FN nb bb cv) Hg8.out).foot)
    have hbv : Bv w9 (.slice va p.length vc) (saveD f a l) := by rw [← Hpc.out]; exact Hv8.out.1
    have Hc : Hid (Calls Try.prog 53 #[.pointer (some ⟨nb, 0, none⟩), .slice va p.length vc] w9 (OutPost f (Nw N w (FN nb bb cv)) w9 nb bb cv (stateM d b a l))) := Lib.hid (by
      by_cases hnf : wholeB d b = true ∨ b.full = false
      · exact nstate_any hnw hf hnf hl hal hbv
      · have h1 : wholeB d b = false := by cases hq : wholeB d b <;> simp [hq] at hnf ⊢
        have h2 : b.full = true := by cases hq : b.full <;> simp [hq, h1] at hnf ⊢
        exact state_full hnw h1 h2 a l va _ vc)
    clear hn9 hnw hbv
    go_wp2_with fail
    (with_reducible refine Hc.out.mono ?_)
    rintro e w10 ho
    have ho' := ho.after H.out.apart (Sep.ofGrow Hg8.out)
    rw [← Hee.out] at ho'
    obtain ⟨mv', kv', cv3, cfv3, sv3, rfl, q1, q2, q3, q4⟩ := ho'
    have Hq : Hid (OutPost f N w nb bb cv O (.returned (.tuple #[mv', kv'])) w10) := Lib.hid ⟨mv', kv', cv3, cfv3, sv3, rfl, q1, q2, q3, q4⟩
    obtain ⟨ua, uc, rfl⟩ := q3.slice
    obtain ⟨ka, kc, rfl⟩ := q4.slice
    clear q1 q2 q3 q4 ho Hc
    go_wp2
    go_ret2
    exact Hq.out
end
end Go.Proofs.Ytfchjoejdijjeaa

/- A node: how far the tail is is taken in. -/
namespace Go.Proofs.Ytfchjoejdijjeaa
open Go.RowKit Go.Gl Go.Wal Go.Ch Go.Shelf
section
variable {C : Type} {f : C → List UInt8} {N : Nat → Prop} {w w' w1 : World} {nb bb : Nat} {cv cfv sv : Value} {d : Nd} {b : Box C}

set_option maxRecDepth 100000 in
set_option maxHeartbeats 8000000 in
theorem recv_tail (h : NdAt f N w nb bb cv cfv sv d b) {src dst ep ix : Nat} {mv : Value} (hmv : Bw N w mv (hdrD 2 ep ix ++ bytesD [])) (hep : ep ≤ 1099511627776) (hix : ix ≤ 1000000) (hds : dst = d.self) (hhas : d.has = true) (hee : ep = d.cfg.epoch) (hm : d.member.isSome = true) :
    Calls Try.prog 31 #[.pointer (some ⟨nb, 0, none⟩), .agg #[.int .i64 (src : Int), .int .i64 (dst : Int), mv]] w (OutPost f N w nb bb cv (if fromM d.behind src = true then ⟨d, b.trim (min ix b.cmds.length), doneM d ix, []⟩ else ⟨d, b, [], []⟩)) := by
  obtain ⟨kd, hkd⟩ : ∃ k : Nat, k = 2 := ⟨_, rfl⟩
  have hk1 : 1 ≤ kd := by omega
  have hk4 : kd ≤ 4 := by omega
  rw [← hkd] at hmv
  obtain ⟨p, hpc⟩ : ∃ p : List UInt8, p = [] := ⟨_, rfl⟩
  rw [← hpc] at hmv
  have hp : p.length ≤ 500000000000 := by rw [hpc]; simp
  obtain ⟨O, hO⟩ : ∃ o, (if fromM d.behind src = true then (⟨d, b.trim (min ix b.cmds.length), doneM d ix, []⟩ : Out C) else ⟨d, b, [], []⟩) = o := ⟨_, rfl⟩
  rw [hO]
  have HO := Lib.hid hO
  have Hkd := Lib.hid hkd
  clear hO hkd hpc
  have H := Lib.hid h
  have hgx : Grow w (w.alloc (.cells #[.int .i64 (src : Int), .int .i64 (dst : Int), mv] 62)) := Grow.alloc _ _
  have Hx := Lib.hid (heap_alloc_new w (.cells #[.int .i64 (src : Int), .int .i64 (dst : Int), mv] 62))
  have Hgx := Lib.hid hgx
  have Hrd := Lib.hid (read_any (hmv.1.grow hgx) hk1 hk4 hep (show ix ≤ 1000000000 by omega) hp)
  obtain ⟨ML, hML⟩ : ∃ n, (hdrD kd ep ix ++ bytesD p).length = n := ⟨_, rfl⟩
  obtain ⟨ma, mc, rfl⟩ := hmv.slice
  rw [hML] at Hx Hgx Hrd ⊢
  obtain ⟨PM, hPM⟩ : ∃ M, d.member.getD zeroM = M := ⟨_, rfl⟩
  obtain ⟨own, hown⟩ : ∃ s, d.member.isSome = s := ⟨_, rfl⟩
  have Hpm := Lib.hid hPM
  have Hown := Lib.hid hown
  clear h hmv hML hPM hown hgx
  have Hds := Lib.hid hds
  have Hee := Lib.hid hee
  have Hhas := Lib.hid hhas
  have Hmm := Lib.hid hm
  clear hds hee hhas hm
  go_enter Try.func31, Try.ntmps31
  go_wp2_with fail
  (with_reducible refine Hrd.out.mono ?_)
  rintro e w2 ⟨v, rfl, hv, hg2⟩
  have hgs : Grow w2 (w2.alloc (.cells #[.int .i64 (kd : Int), .int .i64 (ep : Int), .int .u64 (ix : Int), v] 108)) := Grow.alloc _ _
  have hrc : RcW w (w2.alloc (.cells #[.int .i64 (kd : Int), .int .i64 (ep : Int), .int .u64 (ix : Int), v] 108)) w2.heap.size src dst kd ep ix (.slice ma ML mc) v := ⟨(hg2.trans hgs).heap Hx.out, heap_alloc_new w2 _⟩
  have Hrc := Lib.hid hrc
  have Hg3 := Lib.hid ((Hgx.out.trans hg2).trans hgs)
  have Hv := Lib.hid (hv.bw (N := fun x => w.heap.size ≤ x) (fun x h1 _ => Nat.le_trans Hgx.out.size h1) |>.grow hgs)
  obtain ⟨va, vc, rfl⟩ := hv.slice
  have hn3 := H.out.grow Hg3.out
  have hl3 := hn3.lt
  have Hm := Lib.hid (om_split (pmember_any hn3.pl) Hpm.out Hown.out)
  have hsb : w.heap.size ≤ w2.heap.size := (Hgx.out.trans hg2).size
  clear hv hg2 hgs hrc Hrd hn3 Hx Hgx
  go_wp2_with fail
  generalize w2.heap.size = sb at *
  (with_reducible refine Hm.out.mono ?_)
  rintro e w4 ⟨rfl, hg4⟩
  have hgm := hg4.trans (Grow.alloc w4 (.cells #[.int .i64 (PM.node : Int), .int .i64 (PM.birth : Int), .bool PM.whole] 71))
  have Hrc5 := Lib.hid (Hrc.out.grow hgm)
  have Hg5 := Lib.hid (Hg3.out.trans hgm)
  have Hv5 := Lib.hid (Hv.out.grow hgm)
  clear hgm hg4 Hm Hg3 Hrc Hv
  go_upto_region 3 with fail
  generalize w4.alloc (.cells #[.int .i64 (PM.node : Int), .int .i64 (PM.birth : Int), .bool PM.whole] 71) = w5 at *
  have hn5 := H.out.grow Hg5.out
  obtain ⟨lx, x0, x1⟩ := Hrc5.out.xc
  obtain ⟨ls, s0, s1, s2, s3⟩ := Hrc5.out.sc
  have k0 := hn5.pl.c0
  have k3 := hn5.pl.c3
  have k5 := hn5.pl.c5
  have l5 := hn5.lt
  clear hn5

  have b1 : ((dst : Int) != (d.self : Int)) = false := by simp [Hds.out]
  have b3 : ((ep : Int) != (d.cfg.epoch : Int)) = false := by simp [Hee.out]
  rw [Hhas.out] at k5
  obtain rfl : own = true := by rw [← Hown.out]; exact Hmm.out
  obtain ⟨⟨an, ab, aw⟩, hA⟩ : ∃ M, d.ahead.getD zeroM = M := ⟨_, rfl⟩
  obtain ⟨ah, hah⟩ : ∃ s, d.ahead.isSome = s := ⟨_, rfl⟩
  obtain ⟨⟨en, eb, ew⟩, hE⟩ : ∃ M, d.behind.getD zeroM = M := ⟨_, rfl⟩
  obtain ⟨es, hes⟩ : ∃ s, d.behind.isSome = s := ⟨_, rfl⟩
  have Hah := Lib.hid (om_split (nahead_any (H.out.grow (Hg5.out.trans (Grow.drew w5)))) hA hah)
  have HA := Lib.hid hA
  have HAS := Lib.hid hah
  have HE := Lib.hid hE
  have HES := Lib.hid hes
  clear hA hah hE hes
  refine wp_region_row (fun W => W = w5.drew) [] (by kernel_rfl) (fun c a d v w h => by cases d <;> exact h) rfl ?_
  have Hrc6 := Lib.hid (Hrc5.out.grow (Grow.drew w5))
  have Hv6 := Lib.hid (Hv5.out.grow (Grow.drew w5))
  have Hg6 := Lib.hid (Hg5.out.trans (Grow.drew w5))
  simp only [inRow]
  repeat ((first | (apply wpPi_quiet; rfl; rintro W rfl; go_simp; with_reducible rfl) | (apply wpPi_off; rfl)); simp only [putA, List.set])
  refine wpPi_nil ?_
  clear k0 k3 k5 b1 b3 Hrc5 Hv5 Hg5 lx x0 x1 ls s0 s1 s2 s3 l5
  generalize w5.drew = w6 at *
  have l6 := (H.out.grow Hg6.out).lt
  go_wp2_with fail
  (with_reducible refine Hah.out.mono ?_)
  rintro e w7 ⟨rfl, hg7⟩
  have hga := heap_alloc_new w7 (.cells #[.int .i64 (an : Int), .int .i64 (ab : Int), .bool aw] 71)
  have hg7' := hg7.trans (Grow.alloc w7 (.cells #[.int .i64 (an : Int), .int .i64 (ab : Int), .bool aw] 71))
  have Hga := Lib.hid hga
  have Hrc7 := Lib.hid (Hrc6.out.grow hg7')
  have Hv7 := Lib.hid (Hv6.out.grow hg7')
  have Hg7 := Lib.hid (Hg6.out.trans hg7')
  have Hbe := Lib.hid (om_split (nbehind_any (H.out.grow Hg7.out)) HE.out HES.out)
  have l7 := (H.out.grow Hg7.out).lt
  clear hg7 hg7' hga Hrc6 Hv6 Hg6 Hah l6
  go_wp2_with fail
  generalize hab : w7.heap.size = ga at *
  clear hab
  (with_reducible refine Hbe.out.mono ?_)
  rintro e w8 ⟨rfl, hg8⟩
  have hgb := heap_alloc_new w8 (.cells #[.int .i64 (en : Int), .int .i64 (eb : Int), .bool ew] 71)
  have hg8' := hg8.trans (Grow.alloc w8 (.cells #[.int .i64 (en : Int), .int .i64 (eb : Int), .bool ew] 71))
  have Hga8 := Lib.hid (hg8'.heap Hga.out)
  have Hgb8 := Lib.hid hgb
  have Hrc8 := Lib.hid (Hrc7.out.grow hg8')
  have Hv8 := Lib.hid (Hv7.out.grow hg8')
  have Hg8 := Lib.hid (Hg7.out.trans hg8')
  clear hg8 hg8' hgb Hrc7 Hv7 Hg7 Hbe Hga l7
  go_upto_region 7 with fail
  generalize w8.alloc (.cells #[.int .i64 (en : Int), .int .i64 (eb : Int), .bool ew] 71) = w9 at *
  generalize w8.heap.size = gb at *
  have hn9 := H.out.grow Hg8.out
  have l9 := hn9.lt
  obtain ⟨lx, x0, x1⟩ := Hrc8.out.xc
  obtain ⟨ls, s0, s1, s2, s3⟩ := Hrc8.out.sc
  obtain ⟨la, a0⟩ := mem_cells Hga8.out
  obtain ⟨lb, e0⟩ := mem_cells Hgb8.out
  have k1 : ((kd : Int) == 1) = false := by have := Hkd.out; simp; omega
  have k4 : ((kd : Int) == 4) = false := by have := Hkd.out; simp; omega
  have k2 : ((kd : Int) == 2) = true := by have := Hkd.out; simp; omega
  have k3 : ((kd : Int) == 3) = false := by have := Hkd.out; simp; omega
  obtain ⟨bt, hbt⟩ : ∃ q, ((src : Int) == (en : Int)) = q := ⟨_, rfl⟩
  have hfm : fromM d.behind src = (es && bt) := by
    have h1 := HE.out; have h2 := HES.out
    unfold fromM
    cases ho : d.behind with
    | none => rw [ho] at h2; cases h2; rfl
    | some m =>
      rw [ho] at h1 h2; cases h1; cases h2
      rw [← hbt]
      by_cases hs : src = en <;> simp [hs]
      omega
  rw [hfm] at HO
  clear hfm
  cases hgo : (es && bt) with
  | false =>
    have he : O = ⟨d, b, [], []⟩ := by rw [← HO.out, hgo]; rfl
    subst he
    cases es <;> cases bt
    all_goals first | (exfalso; revert hgo; decide) | skip
    all_goals
      clear hgo
      have Hq := Lib.hid (OutPost.same H.out Hg8.out)
      clear hn9
      go_wp2
      go_ret2
      exact Hq.out
  | true =>
    obtain ⟨rfl, rfl⟩ : es = true ∧ bt = true := by simpa using hgo
    have Hee : Hid (O = ⟨d, b.trim (min ix b.cmds.length), doneM d ix, []⟩) := Lib.hid (by rw [← HO.out]; rfl)
    have m1 := Try.methApplied (.pointer (some ⟨bb, 0, none⟩))
    have m2 := Try.methTrim (.pointer (some ⟨bb, 0, none⟩))
    have hlen := hn9.box.len
    go_upto_region 12 with fail
    have hnd := H.out.grow (Hg8.out.trans (Grow.drew w9))
    have Hgd := Lib.hid (Hg8.out.trans (Grow.drew w9))
    have Hrd := Lib.hid (Hrc8.out.grow (Grow.drew w9))
    have HS : Hid (∀ W, NdAt f N W nb bb cv cfv sv d b ∨ NdAt f N W nb bb cv cfv sv d (b.trim (min ix b.cmds.length)) → RcW w W sb src dst kd ep ix (.slice ma ML mc) (.slice va p.length vc) → nb < W.heap.size ∧ W.cell? ⟨nb, 7, none⟩ = some (.iface 48 (.pointer (some ⟨bb, 0, none⟩))) ∧ sb < W.heap.size ∧ W.cell? ⟨sb, 2, none⟩ = some (.int .u64 (ix : Int))) := Lib.hid fun W h1 h2 => by
      rcases h1 with h1 | h1 <;> exact ⟨h1.lt, h1.m, h2.sc.1, h2.sc.2.2.2.1⟩
    refine wp_region_pi (fun W => nb < W.heap.size ∧ W.cell? ⟨nb, 7, none⟩ = some (.iface 48 (.pointer (some ⟨bb, 0, none⟩))) ∧ sb < W.heap.size ∧ W.cell? ⟨sb, 2, none⟩ = some (.int .u64 (ix : Int))) [(0, false), (1, false), (2, false), (3, false), (4, false), (5, false), (6, false), (7, false), (8, false), (9, false), (12, false), (13, false), (10, true), (11, false), (14, true)] (by kernel_rfl) (by kernel_rfl) (fun c a d v w h => by cases d <;> exact h) (HS.out _ (.inl hnd) Hrd.out) ?_
    clear hn9 lx x0 x1 ls s0 s1 s2 s3 la a0 lb e0 l9 Hrc8 Hv8 Hga8 Hgb8 Hg8
    generalize w9.drew = wd at *
    simp only [arrange, nth]
    repeat ((first | (apply wpPi_quiet; rfl; rintro W ⟨hl0, hW0, hl1, hW1⟩; go_simp; with_reducible rfl) | (apply wpPi_off; rfl)); simp only [putA, List.set])
    refine wpPi_call (by rfl) (by go_simp) (applied_any hnd.box) ?_
    rintro e w10 ⟨rfl, hw1⟩
    have hw2 := hw1.symm
    subst hw2
    clear hw1
    refine ⟨_, rfl, HS.out _ (.inl hnd) Hrd.out, ?_⟩
    obtain ⟨mm, hmm⟩ : ∃ m : Nat, m = min ix b.cmds.length := ⟨_, rfl⟩
    have hmin : (if b.cmds.length < ix then (b.cmds.length : Int) else (ix : Int)) = (mm : Int) := by split <;> omega
    have Hmm2 := Lib.hid hmm
    clear hmm
    try first | simp only [putA, List.set] | simp only [putN]
    repeat ((first | (apply wpPi_quiet; rfl; rintro W ⟨hl0, hW0, hl1, hW1⟩; go_simp; with_reducible rfl) | (apply wpPi_off; rfl)); simp only [putA, List.set])
    refine wpPi_call (by rfl) (by go_simp) (trim_any hnd.box (up := mm) (by have := Hmm2.out; omega)) ?_
    rintro e w11 ⟨rfl, hb2, hs2⟩
    rw [Hmm2.out] at hb2
    obtain ⟨hn2, hsn2⟩ := hnd.turn0 hb2 hs2
    have hrc2 : RcW w w11 sb src dst kd ep ix (.slice ma ML mc) (.slice va p.length vc) := by
      have hlx : ∀ x, w.heap.size ≤ x → ¬ FN nb bb cv x := fun x hx hF => by have := H.out.flt hF; omega
      exact ⟨(hsn2.out _ Hrd.out.xc.1 (hlx _ (Nat.le_refl _))).trans Hrd.out.x, (hsn2.out _ Hrd.out.sc.1 (hlx _ hsb)).trans Hrd.out.s⟩
    clear hmin
    refine ⟨_, rfl, HS.out _ (.inr hn2) hrc2, ?_⟩
    have hsF := (Sep.ofGrow (F := FN nb bb cv) Hgd.out).trans hsn2
    have HsF := Lib.hid hsF
    have Hn2 := Lib.hid hn2
    have Hc := Lib.hid (ndone_any hn2 (i := ix) (by omega))
    obtain ⟨ls, s0, s1, s2, s3⟩ := hrc2.sc
    have l2 := hn2.lt
    clear hnd hb2 hs2 hn2 hsn2 hsF hrc2 Hrd
    try first | simp only [putA, List.set] | simp only [putN]
    refine wpPi_nil ?_
    go_wp2_with fail
    (with_reducible refine Hc.out.mono ?_)
    rintro e w10 ⟨v10, rfl, ho, hg10⟩
    have ho' : OutPost f N w nb bb cv O (.returned (.tuple #[v10, .slice none 0 0])) w10 := by
      rw [Hee.out]
      have hss := HsF.out.grow hg10
      refine ⟨_, _, cv, _, _, rfl, H.out.nw (Hn2.out.grow hg10) hss, hss, ho.msgR.mono (fun x hx _ => .inr ⟨?_, fun hF => ?_⟩), comR_nil _ _⟩
      · have := HsF.out.size; omega
      · have := H.out.flt hF; have := HsF.out.size; omega
    have Hq := Lib.hid ho'
    obtain ⟨ua, uc, rfl⟩ := ho.slice
    clear ho ho' hg10 Hc
    go_wp2
    go_ret2
    exact Hq.out
end
end Go.Proofs.Ytfchjoejdijjeaa

/- A node: that one is whole is taken in. -/
namespace Go.Proofs.Ytfchjoejdijjeaa
open Go.RowKit Go.Gl Go.Wal Go.Ch Go.Shelf
section
variable {C : Type} {f : C → List UInt8} {N : Nat → Prop} {w w' w1 : World} {nb bb : Nat} {cv cfv sv : Value} {d : Nd} {b : Box C}

set_option maxRecDepth 100000 in
set_option maxHeartbeats 8000000 in
theorem recv_whole (h : NdAt f N w nb bb cv cfv sv d b) {src dst ep : Nat} {mv : Value} (hmv : Bw N w mv (hdrD 3 ep 0 ++ bytesD [])) (hep : ep ≤ 1099511627776) (hds : dst = d.self) (hhas : d.has = true) (hee : ep = d.cfg.epoch) (hm : d.member.isSome = true) :
    Calls Try.prog 31 #[.pointer (some ⟨nb, 0, none⟩), .agg #[.int .i64 (src : Int), .int .i64 (dst : Int), mv]] w (OutPost f N w nb bb cv (if fromM d.behind src = true then ⟨{ d with told := true }, b, [], []⟩ else ⟨d, b, [], []⟩)) := by
  obtain ⟨kd, hkd⟩ : ∃ k : Nat, k = 3 := ⟨_, rfl⟩
  have hk1 : 1 ≤ kd := by omega
  have hk4 : kd ≤ 4 := by omega
  obtain ⟨ix, hix0⟩ : ∃ k : Nat, k = 0 := ⟨_, rfl⟩
  rw [← hix0] at hmv
  have hix : ix ≤ 1000000 := by omega
  rw [← hkd] at hmv
  obtain ⟨p, hpc⟩ : ∃ p : List UInt8, p = [] := ⟨_, rfl⟩
  rw [← hpc] at hmv
  have hp : p.length ≤ 500000000000 := by rw [hpc]; simp
  obtain ⟨O, hO⟩ : ∃ o, (if fromM d.behind src = true then (⟨{ d with told := true }, b, [], []⟩ : Out C) else ⟨d, b, [], []⟩) = o := ⟨_, rfl⟩
  rw [hO]
  have HO := Lib.hid hO
  have Hkd := Lib.hid hkd
  clear hO hkd hpc hix0
  have H := Lib.hid h
  have hgx : Grow w (w.alloc (.cells #[.int .i64 (src : Int), .int .i64 (dst : Int), mv] 62)) := Grow.alloc _ _
  have Hx := Lib.hid (heap_alloc_new w (.cells #[.int .i64 (src : Int), .int .i64 (dst : Int), mv] 62))
  have Hgx := Lib.hid hgx
  have Hrd := Lib.hid (read_any (hmv.1.grow hgx) hk1 hk4 hep (show ix ≤ 1000000000 by omega) hp)
  obtain ⟨ML, hML⟩ : ∃ n, (hdrD kd ep ix ++ bytesD p).length = n := ⟨_, rfl⟩
  obtain ⟨ma, mc, rfl⟩ := hmv.slice
  rw [hML] at Hx Hgx Hrd ⊢
  obtain ⟨PM, hPM⟩ : ∃ M, d.member.getD zeroM = M := ⟨_, rfl⟩
  obtain ⟨own, hown⟩ : ∃ s, d.member.isSome = s := ⟨_, rfl⟩
  have Hpm := Lib.hid hPM
  have Hown := Lib.hid hown
  clear h hmv hML hPM hown hgx
  have Hds := Lib.hid hds
  have Hee := Lib.hid hee
  have Hhas := Lib.hid hhas
  have Hmm := Lib.hid hm
  clear hds hee hhas hm
  go_enter Try.func31, Try.ntmps31
  go_wp2_with fail
  (with_reducible refine Hrd.out.mono ?_)
  rintro e w2 ⟨v, rfl, hv, hg2⟩
  have hgs : Grow w2 (w2.alloc (.cells #[.int .i64 (kd : Int), .int .i64 (ep : Int), .int .u64 (ix : Int), v] 108)) := Grow.alloc _ _
  have hrc : RcW w (w2.alloc (.cells #[.int .i64 (kd : Int), .int .i64 (ep : Int), .int .u64 (ix : Int), v] 108)) w2.heap.size src dst kd ep ix (.slice ma ML mc) v := ⟨(hg2.trans hgs).heap Hx.out, heap_alloc_new w2 _⟩
  have Hrc := Lib.hid hrc
  have Hg3 := Lib.hid ((Hgx.out.trans hg2).trans hgs)
  have Hv := Lib.hid (hv.bw (N := fun x => w.heap.size ≤ x) (fun x h1 _ => Nat.le_trans Hgx.out.size h1) |>.grow hgs)
  obtain ⟨va, vc, rfl⟩ := hv.slice
  have hn3 := H.out.grow Hg3.out
  have hl3 := hn3.lt
  have Hm := Lib.hid (om_split (pmember_any hn3.pl) Hpm.out Hown.out)
  have hsb : w.heap.size ≤ w2.heap.size := (Hgx.out.trans hg2).size
  clear hv hg2 hgs hrc Hrd hn3 Hx Hgx
  go_wp2_with fail
  generalize w2.heap.size = sb at *
  (with_reducible refine Hm.out.mono ?_)
  rintro e w4 ⟨rfl, hg4⟩
  have hgm := hg4.trans (Grow.alloc w4 (.cells #[.int .i64 (PM.node : Int), .int .i64 (PM.birth : Int), .bool PM.whole] 71))
  have Hrc5 := Lib.hid (Hrc.out.grow hgm)
  have Hg5 := Lib.hid (Hg3.out.trans hgm)
  have Hv5 := Lib.hid (Hv.out.grow hgm)
  clear hgm hg4 Hm Hg3 Hrc Hv
  go_upto_region 3 with fail
  generalize w4.alloc (.cells #[.int .i64 (PM.node : Int), .int .i64 (PM.birth : Int), .bool PM.whole] 71) = w5 at *
  have hn5 := H.out.grow Hg5.out
  obtain ⟨lx, x0, x1⟩ := Hrc5.out.xc
  obtain ⟨ls, s0, s1, s2, s3⟩ := Hrc5.out.sc
  have k0 := hn5.pl.c0
  have k3 := hn5.pl.c3
  have k5 := hn5.pl.c5
  have l5 := hn5.lt
  clear hn5

  have b1 : ((dst : Int) != (d.self : Int)) = false := by simp [Hds.out]
  have b3 : ((ep : Int) != (d.cfg.epoch : Int)) = false := by simp [Hee.out]
  rw [Hhas.out] at k5
  obtain rfl : own = true := by rw [← Hown.out]; exact Hmm.out
  obtain ⟨⟨an, ab, aw⟩, hA⟩ : ∃ M, d.ahead.getD zeroM = M := ⟨_, rfl⟩
  obtain ⟨ah, hah⟩ : ∃ s, d.ahead.isSome = s := ⟨_, rfl⟩
  obtain ⟨⟨en, eb, ew⟩, hE⟩ : ∃ M, d.behind.getD zeroM = M := ⟨_, rfl⟩
  obtain ⟨es, hes⟩ : ∃ s, d.behind.isSome = s := ⟨_, rfl⟩
  have Hah := Lib.hid (om_split (nahead_any (H.out.grow (Hg5.out.trans (Grow.drew w5)))) hA hah)
  have HA := Lib.hid hA
  have HAS := Lib.hid hah
  have HE := Lib.hid hE
  have HES := Lib.hid hes
  clear hA hah hE hes
  refine wp_region_row (fun W => W = w5.drew) [] (by kernel_rfl) (fun c a d v w h => by cases d <;> exact h) rfl ?_
  have Hrc6 := Lib.hid (Hrc5.out.grow (Grow.drew w5))
  have Hv6 := Lib.hid (Hv5.out.grow (Grow.drew w5))
  have Hg6 := Lib.hid (Hg5.out.trans (Grow.drew w5))
  simp only [inRow]
  repeat ((first | (apply wpPi_quiet; rfl; rintro W rfl; go_simp; with_reducible rfl) | (apply wpPi_off; rfl)); simp only [putA, List.set])
  refine wpPi_nil ?_
  clear k0 k3 k5 b1 b3 Hrc5 Hv5 Hg5 lx x0 x1 ls s0 s1 s2 s3 l5
  generalize w5.drew = w6 at *
  have l6 := (H.out.grow Hg6.out).lt
  go_wp2_with fail
  (with_reducible refine Hah.out.mono ?_)
  rintro e w7 ⟨rfl, hg7⟩
  have hga := heap_alloc_new w7 (.cells #[.int .i64 (an : Int), .int .i64 (ab : Int), .bool aw] 71)
  have hg7' := hg7.trans (Grow.alloc w7 (.cells #[.int .i64 (an : Int), .int .i64 (ab : Int), .bool aw] 71))
  have Hga := Lib.hid hga
  have Hrc7 := Lib.hid (Hrc6.out.grow hg7')
  have Hv7 := Lib.hid (Hv6.out.grow hg7')
  have Hg7 := Lib.hid (Hg6.out.trans hg7')
  have Hbe := Lib.hid (om_split (nbehind_any (H.out.grow Hg7.out)) HE.out HES.out)
  have l7 := (H.out.grow Hg7.out).lt
  clear hg7 hg7' hga Hrc6 Hv6 Hg6 Hah l6
  go_wp2_with fail
  generalize hab : w7.heap.size = ga at *
  clear hab
  (with_reducible refine Hbe.out.mono ?_)
  rintro e w8 ⟨rfl, hg8⟩
  have hgb := heap_alloc_new w8 (.cells #[.int .i64 (en : Int), .int .i64 (eb : Int), .bool ew] 71)
  have hg8' := hg8.trans (Grow.alloc w8 (.cells #[.int .i64 (en : Int), .int .i64 (eb : Int), .bool ew] 71))
  have Hga8 := Lib.hid (hg8'.heap Hga.out)
  have Hgb8 := Lib.hid hgb
  have Hrc8 := Lib.hid (Hrc7.out.grow hg8')
  have Hv8 := Lib.hid (Hv7.out.grow hg8')
  have Hg8 := Lib.hid (Hg7.out.trans hg8')
  clear hg8 hg8' hgb Hrc7 Hv7 Hg7 Hbe Hga l7
  go_upto_region 7 with fail
  generalize w8.alloc (.cells #[.int .i64 (en : Int), .int .i64 (eb : Int), .bool ew] 71) = w9 at *
  generalize w8.heap.size = gb at *
  have hn9 := H.out.grow Hg8.out
  have l9 := hn9.lt
  obtain ⟨lx, x0, x1⟩ := Hrc8.out.xc
  obtain ⟨ls, s0, s1, s2, s3⟩ := Hrc8.out.sc
  obtain ⟨la, a0⟩ := mem_cells Hga8.out
  obtain ⟨lb, e0⟩ := mem_cells Hgb8.out
  have k1 : ((kd : Int) == 1) = false := by have := Hkd.out; simp; omega
  have k4 : ((kd : Int) == 4) = false := by have := Hkd.out; simp; omega
  have k2 : ((kd : Int) == 2) = false := by have := Hkd.out; simp; omega
  have k3 : ((kd : Int) == 3) = true := by have := Hkd.out; simp; omega
  obtain ⟨bt, hbt⟩ : ∃ q, ((src : Int) == (en : Int)) = q := ⟨_, rfl⟩
  have hfm : fromM d.behind src = (es && bt) := by
    have h1 := HE.out; have h2 := HES.out
    unfold fromM
    cases ho : d.behind with
    | none => rw [ho] at h2; cases h2; rfl
    | some m =>
      rw [ho] at h1 h2; cases h1; cases h2
      rw [← hbt]
      by_cases hs : src = en <;> simp [hs]
      omega
  rw [hfm] at HO
  clear hfm
  cases hgo : (es && bt) with
  | false =>
    have he : O = ⟨d, b, [], []⟩ := by rw [← HO.out, hgo]; rfl
    subst he
    cases es <;> cases bt
    all_goals first | (exfalso; revert hgo; decide) | skip
    all_goals
      clear hgo
      have Hq := Lib.hid (OutPost.same H.out Hg8.out)
      clear hn9
      go_wp2
      go_ret2
      exact Hq.out
  | true =>
    obtain ⟨rfl, rfl⟩ : es = true ∧ bt = true := by simpa using hgo
    have Hee : Hid (O = ⟨{ d with told := true }, b, [], []⟩) := Lib.hid (by rw [← HO.out]; rfl)
    have hb9 := hn9.blk
    have fz := frz hb9 6
    have k6 := hn9.pl.c6
    have hset := setCell_heap hb9 6 (.bool true)
    have hs : Sep (FN nb bb cv) w9 (w9.setCell ⟨nb, 6, none⟩ (.bool true)) (FN nb bb cv) := Sep.set _ _ (.inl rfl) _ _
    have hkp : Kp N w9 (w9.setCell ⟨nb, 6, none⟩ (.bool true)) := Kp.ofSep hs hn9.apart
    have hnn : NdAt f N (w9.setCell ⟨nb, 6, none⟩ (.bool true)) nb bb cv cfv sv { d with told := true } b := by
      refine ⟨by simpa using hset, ⟨?_, ?_, hn9.box.apart, hn9.box.len, hn9.box.fst, hn9.box.ep⟩, hn9.cfg.kp hkp, hn9.own, hn9.ep, hn9.slf, hn9.bir⟩
      · rw [Below.heap_setCell _ _ _ _ (fun e => hn9.ne (.inl e.symm))]; exact hn9.box.blk
      · exact hn9.box.row.kp hkp (fun g hg => Below.heap_setCell _ _ _ _ (fun e => hn9.ne (.inr (by rw [hg]; exact congrArg some e))))
    have hsF := (Sep.ofGrow (F := FN nb bb cv) Hg8.out).trans hs
    have Hq : Hid (OutPost f N w nb bb cv O (.returned (.tuple #[.slice none 0 0, .slice none 0 0])) (w9.setCell ⟨nb, 6, none⟩ (.bool true))) := Lib.hid (by
      rw [Hee.out]
      exact ⟨_, _, cv, _, _, rfl, H.out.nw hnn hsF, hsF, msgR_nil _ _, comR_nil _ _⟩)
    clear hn9 hb9 hset hs hkp hnn hsF
    go_wp2
    go_ret2
    exact Hq.out
end
end Go.Proofs.Ytfchjoejdijjeaa
