/- Merged out of EF: helpers. -/
import Derived.Test.YtfchjoejdijjeaaCL
set_option linter.unusedSimpArgs false
set_option linter.unusedVariables false
/- A node: an entry is taken in. -/
namespace Go.Proofs.Ytfchjoejdijjeaa
open Go.RowKit Go.Gl Go.Wal Go.Ch Go.Shelf
section
variable {C : Type} {f : C → List UInt8} {N : Nat → Prop} {w w' w1 : World} {nb bb : Nat} {cv cfv sv : Value} {d : Nd} {b : Box C}

set_option maxRecDepth 100000 in
set_option maxHeartbeats 8000000 in
theorem recv_entry (h : NdAt f N w nb bb cv cfv sv d b) (hf : ∀ c, (f c).length ≤ 1048576) (hl : b.cmds.length < 99999) {src dst ep ix : Nat} {c : C} {mv : Value} (hmv : Bw N w mv (hdrD 1 ep ix ++ bytesD (f c))) (hep : ep ≤ 1099511627776) (hix : ix ≤ 1000000) (hds : dst = d.self) (hhas : d.has = true) (hee : ep = d.cfg.epoch) (hm : d.member.isSome = true) :
    Calls Try.prog 31 #[.pointer (some ⟨nb, 0, none⟩), .agg #[.int .i64 (src : Int), .int .i64 (dst : Int), mv]] w (OutPost f N w nb bb cv (if fromM d.ahead src = true then entryM d b ix c else ⟨d, b, [], []⟩)) := by
  obtain ⟨kd, hkd⟩ : ∃ k : Nat, k = 1 := ⟨_, rfl⟩
  have hk1 : 1 ≤ kd := by omega
  have hk4 : kd ≤ 4 := by omega
  have hp : (f c).length ≤ 500000000000 := by have := hf c; omega
  rw [← hkd] at hmv
  obtain ⟨p, hpc⟩ : ∃ p, p = f c := ⟨_, rfl⟩
  rw [← hpc] at hmv hp
  have Hpc := Lib.hid hpc
  obtain ⟨O, hO⟩ : ∃ o, (if fromM d.ahead src = true then entryM d b ix c else ⟨d, b, [], []⟩) = o := ⟨_, rfl⟩
  rw [hO]
  have HO := Lib.hid hO
  have Hkd := Lib.hid hkd
  clear hO hkd hpc
  have H := Lib.hid h
  have hgx : Grow w (w.alloc (.cells #[.int .i64 (src : Int), .int .i64 (dst : Int), mv] 62)) := Grow.alloc _ _
  have Hx := Lib.hid (heap_alloc_new w (.cells #[.int .i64 (src : Int), .int .i64 (dst : Int), mv] 62))
  have Hgx := Lib.hid hgx
  have Hrd := Lib.hid (read_any (hmv.1.grow hgx) hk1 hk4 hep (show ix ≤ 1000000000 by omega) hp)
  obtain ⟨ML, hML⟩ : ∃ n, (hdrD kd ep ix ++ bytesD p).length = n := ⟨_, rfl⟩
  obtain ⟨ma, mc, rfl⟩ := hmv.slice
  rw [hML] at Hx Hgx Hrd ⊢
  obtain ⟨PM, hPM⟩ : ∃ M, d.member.getD zeroM = M := ⟨_, rfl⟩
  obtain ⟨own, hown⟩ : ∃ s, d.member.isSome = s := ⟨_, rfl⟩
  have Hpm := Lib.hid hPM
  have Hown := Lib.hid hown
  clear h hmv hML hPM hown hgx
  have Hds := Lib.hid hds
  have Hee := Lib.hid hee
  have Hhas := Lib.hid hhas
  have Hmm := Lib.hid hm
  clear hds hee hhas hm
  go_enter Try.func31, Try.ntmps31
  go_wp2_with fail
  (with_reducible refine Hrd.out.mono ?_)
  rintro e w2 ⟨v, rfl, hv, hg2⟩
  have hgs : Grow w2 (w2.alloc (.cells #[.int .i64 (kd : Int), .int .i64 (ep : Int), .int .u64 (ix : Int), v] 108)) := Grow.alloc _ _
  have hrc : RcW w (w2.alloc (.cells #[.int .i64 (kd : Int), .int .i64 (ep : Int), .int .u64 (ix : Int), v] 108)) w2.heap.size src dst kd ep ix (.slice ma ML mc) v := ⟨(hg2.trans hgs).heap Hx.out, heap_alloc_new w2 _⟩
  have Hrc := Lib.hid hrc
  have Hg3 := Lib.hid ((Hgx.out.trans hg2).trans hgs)
  have Hv := Lib.hid (hv.bw (N := fun x => w.heap.size ≤ x) (fun x h1 _ => Nat.le_trans Hgx.out.size h1) |>.grow hgs)
  obtain ⟨va, vc, rfl⟩ := hv.slice
  have hn3 := H.out.grow Hg3.out
  have hl3 := hn3.lt
  have Hm := Lib.hid (om_split (pmember_any hn3.pl) Hpm.out Hown.out)
  clear hv hg2 hgs hrc Hrd hn3 Hx Hgx
  go_wp2_with fail
  generalize w2.heap.size = sb at *
  (with_reducible refine Hm.out.mono ?_)
  rintro e w4 ⟨rfl, hg4⟩
  have hgm := hg4.trans (Grow.alloc w4 (.cells #[.int .i64 (PM.node : Int), .int .i64 (PM.birth : Int), .bool PM.whole] 71))
  have Hrc5 := Lib.hid (Hrc.out.grow hgm)
  have Hg5 := Lib.hid (Hg3.out.trans hgm)
  have Hv5 := Lib.hid (Hv.out.grow hgm)
  clear hgm hg4 Hm Hg3 Hrc Hv
  go_upto_region 3 with fail
  generalize w4.alloc (.cells #[.int .i64 (PM.node : Int), .int .i64 (PM.birth : Int), .bool PM.whole] 71) = w5 at *
  have hn5 := H.out.grow Hg5.out
  obtain ⟨lx, x0, x1⟩ := Hrc5.out.xc
  obtain ⟨ls, s0, s1, s2, s3⟩ := Hrc5.out.sc
  have k0 := hn5.pl.c0
  have k3 := hn5.pl.c3
  have k5 := hn5.pl.c5
  have l5 := hn5.lt
  clear hn5

  have b1 : ((dst : Int) != (d.self : Int)) = false := by simp [Hds.out]
  have b3 : ((ep : Int) != (d.cfg.epoch : Int)) = false := by simp [Hee.out]
  rw [Hhas.out] at k5
  obtain rfl : own = true := by rw [← Hown.out]; exact Hmm.out
  obtain ⟨⟨an, ab, aw⟩, hA⟩ : ∃ M, d.ahead.getD zeroM = M := ⟨_, rfl⟩
  obtain ⟨ah, hah⟩ : ∃ s, d.ahead.isSome = s := ⟨_, rfl⟩
  obtain ⟨⟨en, eb, ew⟩, hE⟩ : ∃ M, d.behind.getD zeroM = M := ⟨_, rfl⟩
  obtain ⟨es, hes⟩ : ∃ s, d.behind.isSome = s := ⟨_, rfl⟩
  have Hah := Lib.hid (om_split (nahead_any (H.out.grow (Hg5.out.trans (Grow.drew w5)))) hA hah)
  have HA := Lib.hid hA
  have HAS := Lib.hid hah
  have HE := Lib.hid hE
  have HES := Lib.hid hes
  clear hA hah hE hes
  refine wp_region_row (fun W => W = w5.drew) [] (by kernel_rfl) (fun c a d v w h => by cases d <;> exact h) rfl ?_
  have Hrc6 := Lib.hid (Hrc5.out.grow (Grow.drew w5))
  have Hv6 := Lib.hid (Hv5.out.grow (Grow.drew w5))
  have Hg6 := Lib.hid (Hg5.out.trans (Grow.drew w5))
  simp only [inRow]
  repeat ((first | (apply wpPi_quiet; rfl; rintro W rfl; go_simp; with_reducible rfl) | (apply wpPi_off; rfl)); simp only [putA, List.set])
  refine wpPi_nil ?_
  clear k0 k3 k5 b1 b3 Hrc5 Hv5 Hg5 lx x0 x1 ls s0 s1 s2 s3 l5
  generalize w5.drew = w6 at *
  have l6 := (H.out.grow Hg6.out).lt
  go_wp2_with fail
  (with_reducible refine Hah.out.mono ?_)
  rintro e w7 ⟨rfl, hg7⟩
  have hga := heap_alloc_new w7 (.cells #[.int .i64 (an : Int), .int .i64 (ab : Int), .bool aw] 71)
  have hg7' := hg7.trans (Grow.alloc w7 (.cells #[.int .i64 (an : Int), .int .i64 (ab : Int), .bool aw] 71))
  have Hga := Lib.hid hga
  have Hrc7 := Lib.hid (Hrc6.out.grow hg7')
  have Hv7 := Lib.hid (Hv6.out.grow hg7')
  have Hg7 := Lib.hid (Hg6.out.trans hg7')
  have Hbe := Lib.hid (om_split (nbehind_any (H.out.grow Hg7.out)) HE.out HES.out)
  have l7 := (H.out.grow Hg7.out).lt
  clear hg7 hg7' hga Hrc6 Hv6 Hg6 Hah l6
  go_wp2_with fail
  generalize hab : w7.heap.size = ga at *
  clear hab
  (with_reducible refine Hbe.out.mono ?_)
  rintro e w8 ⟨rfl, hg8⟩
  have hgb := heap_alloc_new w8 (.cells #[.int .i64 (en : Int), .int .i64 (eb : Int), .bool ew] 71)
  have hg8' := hg8.trans (Grow.alloc w8 (.cells #[.int .i64 (en : Int), .int .i64 (eb : Int), .bool ew] 71))
  have Hga8 := Lib.hid (hg8'.heap Hga.out)
  have Hgb8 := Lib.hid hgb
  have Hrc8 := Lib.hid (Hrc7.out.grow hg8')
  have Hv8 := Lib.hid (Hv7.out.grow hg8')
  have Hg8 := Lib.hid (Hg7.out.trans hg8')
  clear hg8 hg8' hgb Hrc7 Hv7 Hg7 Hbe Hga l7
  go_upto_region 7 with fail
  generalize w8.alloc (.cells #[.int .i64 (en : Int), .int .i64 (eb : Int), .bool ew] 71) = w9 at *
  generalize w8.heap.size = gb at *
  have hn9 := H.out.grow Hg8.out
  have l9 := hn9.lt
  obtain ⟨lx, x0, x1⟩ := Hrc8.out.xc
  obtain ⟨ls, s0, s1, s2, s3⟩ := Hrc8.out.sc
  obtain ⟨la, a0⟩ := mem_cells Hga8.out
  obtain ⟨lb, e0⟩ := mem_cells Hgb8.out

  have k1 : ((kd : Int) == 1) = true := by have := Hkd.out; simp; omega
  have k4 : ((kd : Int) == 4) = false := by have := Hkd.out; simp; omega
  have k2 : ((kd : Int) == 2) = false := by have := Hkd.out; simp; omega
  have k3 : ((kd : Int) == 3) = false := by have := Hkd.out; simp; omega
  obtain ⟨bt, hbt⟩ : ∃ q, ((src : Int) == (an : Int)) = q := ⟨_, rfl⟩
  have hfm : fromM d.ahead src = (ah && bt) := by
    have h1 := HA.out; have h2 := HAS.out
    unfold fromM
    cases ho : d.ahead with
    | none => rw [ho] at h2; cases h2; rfl
    | some m =>
      rw [ho] at h1 h2; cases h1; cases h2
      rw [← hbt]
      by_cases hs : src = an <;> simp [hs]
      omega
  rw [hfm] at HO
  clear hfm
  cases hgo : (ah && bt) with
  | false =>
    have he : O = ⟨d, b, [], []⟩ := by rw [← HO.out, hgo]; rfl
    subst he
    cases ah <;> cases bt
    all_goals first | (exfalso; revert hgo; decide) | skip
    all_goals
      clear hgo
      have Hq := Lib.hid (OutPost.same H.out Hg8.out)
      clear hn9
      go_wp2
      go_ret2
      exact Hq.out
  | true =>
    obtain ⟨rfl, rfl⟩ : ah = true ∧ bt = true := by simpa using hgo
    have he : O = entryM d b ix c := by rw [← HO.out]; rfl
    subst he
    have hvn : Bw (fun x => N x ∨ w.heap.size ≤ x) w9 (.slice va p.length vc) (f c) := by rw [← Hpc.out]; exact Hv8.out.mono (fun x hx _ => .inr hx)
    have Hc := Lib.hid (nentry_any (N := Nw N w (FN nb bb cv)) (hn9.mono (fun x hx _ => nw_in H.out x hx) (nw_apart H.out.apart (Sep.ofGrow (F := FN nb bb cv) Hg8.out).foot)) hf hl (kd := (kd : Int)) (ep := (ep : Int)) hix (c := c) (hvn.mono (fun x hx _ => hx.elim (fun h => nw_in H.out x h) (fun h => .inr ⟨h, fun hF => by have := H.out.flt hF; omega⟩))))
    clear hn9 hvn
    go_wp2_with fail
    (with_reducible refine Hc.out.mono ?_)
    rintro e w10 ho
    obtain ⟨mv', kv', cv3, cfv3, sv3, rfl, q1, q2, q3, q4⟩ := ho.after H.out.apart (Sep.ofGrow Hg8.out)
    have Hq : Hid (OutPost f N w nb bb cv (entryM d b ix c) (.returned (.tuple #[mv', kv'])) w10) := Lib.hid ⟨mv', kv', cv3, cfv3, sv3, rfl, q1, q2, q3, q4⟩
    obtain ⟨ua, uc, rfl⟩ := q3.slice
    obtain ⟨ka, kc, rfl⟩ := q4.slice
    clear q1 q2 q3 q4 ho Hc
    go_wp2
    go_ret2
    exact Hq.out
end
end Go.Proofs.Ytfchjoejdijjeaa
