/- Merged out of KF, KG, KH: helpers. -/
import Derived.Test.YtejpcoghkgjanaaGreatDoorVR
import Derived.LaidEql
import Derived.Stop.Asserts
import Derived.Lib.IfaceEq
import Derived.RowKitTokens
import Derived.Test.YtejpcoghkgjanaaGreatDoorVQ
/- errors.Is at two of api's numbers. -/
namespace Go.Proofs.YtejpcoghkgjanaaGreatDoor
open Go.RowKit Go.Gl Go.Wal Mn Go.Extern.Stop Go.Stop Go.Extern

theorem Tryz.isTypeOf (v : Value) (w : World) : (Extern.ReflectliteType.typeOf #[.iface 27 v]).run Tryz.prog w = .ok (.iface 145 (.agg #[.pointer (some ⟨5, 27, none⟩)])) w := by kernel_rfl
theorem Tryz.callComparable (w : World) : (callFunc 169 #[.agg #[.pointer (some ⟨5, 27, none⟩)]]).run Tryz.prog w = .ok (.value (.bool true)) w := by kernel_rfl
theorem Tryz.isMethodComparable (v : Value) (w : World) : (Go.method 338 145 v "Comparable").run Tryz.prog w = .ok (169, v) w := by kernel_rfl
theorem Tryz.noIsE (v : Value) (xT : TypeId) (w : World) : (Instr.typeAssert (.iface 27 v) xT 147 true).run Tryz.prog w = .ok (.tuple #[.nilIface, .bool false]) w := run_typeAssert_lacksB Tryz.underlying147 (by kernel_rfl) (by kernel_rfl) v xT w
theorem Tryz.noUnwrapE (v : Value) (xT : TypeId) (w : World) : (Instr.typeAssert (.iface 27 v) xT 150 true).run Tryz.prog w = .ok (.tuple #[.nilIface, .bool false]) w := run_typeAssert_lacksB Tryz.underlying150 (by kernel_rfl) (by kernel_rfl) v xT w
theorem Tryz.noUnwrapsE (v : Value) (xT : TypeId) (w : World) : (Instr.typeAssert (.iface 27 v) xT 151 true).run Tryz.prog w = .ok (.tuple #[.nilIface, .bool false]) w := run_typeAssert_lacksB Tryz.underlying151 (by kernel_rfl) (by kernel_rfl) v xT w

set_option maxRecDepth 100000 in
theorem errIs_any (a : Int) (w : World) :
    Calls Tryz.prog 33 #[.iface 27 (.int .i64 a), .iface 27 (.int .i64 4)] w fun e w' => e = .returned (.bool (a == 4)) ∧ w' = w := by
  have h8 := @run_callFunc_extern Tryz.prog 64 _ Extern.ReflectliteType.typeOf Tryz.func64 (by kernel_rfl) (by kernel_rfl) (by kernel_rfl) (by kernel_rfl)
  have tT := Tryz.isTypeOf
  have cT := Tryz.callComparable
  have mR := Tryz.isMethodComparable
  have nE := Tryz.noIsE
  have uE := Tryz.noUnwrapE
  have vE := Tryz.noUnwrapsE
  cases hc : (a == 4) with
  | true =>
    have heq := Lib.run_eql_iface_int (P := Tryz.prog) w (t := 32) (tx := 27) (k := .i64) (q := .i64) a 4 Tryz.underlying32 (by kernel_rfl) Tryz.underlying27
    rw [hc] at heq
    go_enter Tryz.func33, Tryz.ntmps33
    go_wp2
    refine wp_loop_rounds 1 ?_
    rw [rounds_succ]
    go_wp2
    go_ret
    exact ⟨rfl, rfl⟩
  | false =>
    have heq := Lib.run_eql_iface_int (P := Tryz.prog) w (t := 32) (tx := 27) (k := .i64) (q := .i64) a 4 Tryz.underlying32 (by kernel_rfl) Tryz.underlying27
    rw [hc] at heq
    go_enter Tryz.func33, Tryz.ntmps33
    go_wp2
    refine wp_loop_rounds 1 ?_
    rw [rounds_succ]
    go_wp2
    go_ret
    exact ⟨rfl, rfl⟩
end Go.Proofs.YtejpcoghkgjanaaGreatDoor

/- manifest.said. -/
namespace Go.Proofs.YtejpcoghkgjanaaGreatDoor
open Go.RowKit Go.Gl Go.Wal Mn

set_option maxRecDepth 100000 in
set_option maxHeartbeats 4000000 in
theorem said_any {N B : Nat} {w : World} (hN : Nums N B w) (hB : B ≤ w.heap.size) {n : Nat} (hn : n < N) (h6 : n < 1000000) {bv : Value} (h : Bv w bv (digB n)) :
    Calls Tryz.prog 34 #[bv] w fun e w' => e = .returned (.tuple #[.int .i64 n, .bool true]) ∧ Grow w w' := by
  have hc0 := conv_text h
  have Ha := Lib.hid (atoi_dig h6 w)
  have hd := digits_small h6
  obtain ⟨ba, bc, rfl⟩ := h.slice
  have hcv : ∀ W, Bv W (.slice ba (digB n).length bc) (digB n) → (convert 69 9 (.slice ba (digB n).length bc)).run Tryz.prog W = .ok (.string ⟨(digB n).toArray⟩) W := fun W hW => conv_text hW
  have H := Lib.hid h
  have HN := Lib.hid hN
  clear h hN
  have g1 : decide ((n : Int) ≤ 999999999) = true := by simp; omega
  have g0 : decide ((0 : Int) ≤ (n : Int)) = true := by simp
  go_enter Tryz.func34, Tryz.ntmps34
  go_wp2_with fail
  (with_reducible refine Ha.out.mono ?_)
  rintro e w1 ⟨rfl, hg1⟩
  have Hg1 := Lib.hid hg1
  clear hg1 Ha
  go_upto_region 2 with fail
  have hgd := Grow.drew w1
  refine wp_region_pi (fun W => Bv W (.slice ba (digB n).length bc) (digB n)) [(0, false), (1, false), (2, false), (3, false), (4, false), (5, false), (6, false), (7, false), (8, false), (9, false), (10, false), (11, false), (12, false), (14, false), (15, false), (13, true), (16, false), (17, false), (18, false), (19, false)] (by kernel_rfl) (by kernel_rfl) (fun c a d v w h => by cases d <;> exact h) (H.out.grow (Hg1.out.trans hgd)) ?_
  simp only [arrange, nth]
  repeat (first | (refine wpPi_quiet (v := ?_) (by rfl) (fun W hW => ?_) ?_; rotate_left; (obtain hW := hW; go_simp; with_reducible rfl); simp only [Act.put, List.setIfInBounds_toArray, List.set_cons_zero, List.set_cons_succ]) | (refine wpPi_off (by rfl) ?_; simp only [Act.put, List.setIfInBounds_toArray, List.set_cons_zero, List.set_cons_succ]))
  have hB1 : B ≤ w1.heap.size := Nat.le_trans hB Hg1.out.size
  refine wpPi_call (by rfl) (by go_simp) (((HN.out.grow Hg1.out hB).grow hgd hB1) n hn _ (fun _ _ => rfl)) ?_
  rintro e w2 ⟨rfl, hg2⟩
  have hg := (Hg1.out.trans hgd).trans hg2
  refine ⟨_, rfl, H.out.grow hg, ?_⟩
  try simp only [Act.put, List.setIfInBounds_toArray, List.set_cons_zero, List.set_cons_succ]
  repeat (first | (refine wpPi_quiet (v := ?_) (by rfl) (fun W hW => ?_) ?_; rotate_left; (obtain hW := hW; go_simp; with_reducible rfl); simp only [Act.put, List.setIfInBounds_toArray, List.set_cons_zero, List.set_cons_succ]) | (refine wpPi_off (by rfl) ?_; simp only [Act.put, List.setIfInBounds_toArray, List.set_cons_zero, List.set_cons_succ]))
  refine wpPi_nil ?_
  have Hg := Lib.hid hg
  clear hg hgd hg2
  go_wp2
  exact bodyPost_ret (v := .tuple #[.int .i64 (n : Int), .bool true]) (by simp [results, Tryz.results34, go_sem]) rfl ⟨rfl, Hg.out⟩
end Go.Proofs.YtejpcoghkgjanaaGreatDoor

/- (*manifest.Set).open: on a blank disk; on a manifest of whole frames. -/
namespace Go.Proofs.YtejpcoghkgjanaaGreatDoor
open Go.RowKit Go.Gl Go.Wal Mn

theorem bv_nil (w : World) : Bv w (.slice none 0 0) [] := ⟨none, 0, rfl, Nat.le_refl _, Nat.zero_le _, fun _ => rfl, .inl rfl⟩

set_option maxRecDepth 100000 in
set_option maxHeartbeats 4000000 in
theorem open_fresh {Z B N : Nat} {w : World} {p r : Nat} {f : Lk} {T K : Nat} {F : Nat → Prop} {sb : Nat} {tv : Value} {V : VerD} {m : Int} (hS : SetAt w sb p tv V m) (h : Dl Z B w p r f T K F) (hB : B ≤ sb) (hN : Nums N B w) (hn : 0 < N)
    (hcur : f curN = none) (htmp : f ctmpN = none) (hroom : T + 6 ≤ Z) :
    Calls Tryz.prog 16 #[.pointer (some ⟨sb, 0, none⟩)] w fun e w' => e = .returned .nilIface ∧ SetAt w' sb p tv V 0 ∧ (∃ T' F', T' ≤ T + 6 ∧ Dl Z B w' p r (turnL 0 [] f) T' (K + 3) F') ∧ Rl B w w' := by
  obtain ⟨c0, _, _, _, _, _, ls⟩ := hS.cells
  have hrd := dl_read h curN
  rw [hcur] at hrd
  have Hrd := Lib.hid hrd
  have H := Lib.hid h
  have HS := Lib.hid hS
  have HN := Lib.hid hN
  clear h hS hN hrd
  go_enter Tryz.func16, Tryz.ntmps16
  go_wp2_with fail
  (with_reducible refine Hrd.out.mono ?_)
  rintro e w1 ⟨rfl, hg1⟩
  go_wp2_with fail
  (with_reducible refine (errIs_any 4 w1).mono ?_)
  rintro e w2 ⟨rfl, hw⟩
  have hw' := hw.symm
  subst hw'
  clear hw
  have Ht0 := (turn_ok (n := 0) (HS.out.grow hg1) (H.out.grow hg1) hB (HN.out.grow hg1 H.out.base) hn (by decide) (bv_nil w1) (by simp) (fun b hb => by cases hb) htmp (by simpa using hroom))
  have Ht1 : Calls Tryz.prog 28 #[.pointer (some ⟨sb, 0, none⟩), .int .i64 0, .slice none 0 0] w1 _ := Ht0
  have Ht := Lib.hid Ht1
  have Hg1 := Lib.hid hg1
  clear Ht0 Ht1
  have HB := Lib.hid H.out.base
  have eq4 : ((4 : Int) == 4) = true := rfl
  rw [eq4]
  clear hg1 Hrd H HS HN c0 ls
  go_wp2_with fail
  (with_reducible refine Ht.out.mono ?_)
  rintro e w3 ⟨rfl, hS3, ⟨T3, F3, hT3, hd3⟩, hr3⟩
  have Hend := Lib.hid (And.intro hS3 (And.intro hd3 ((Rl.grow Hg1.out HB.out).trans hr3)))
  clear hS3 hd3 hr3 Ht
  go_wp2
  go_ret
  exact ⟨rfl, Hend.out.1, ⟨T3, F3, by simpa using hT3, Hend.out.2.1⟩, Hend.out.2.2⟩

/-- Only the set's block is another. -/
theorem Dl.gx {Z B : Nat} {w w' : World} {p r : Nat} {f : Lk} {T K : Nat} {F : Nat → Prop} (h : Dl Z B w p r f T K F) {sb : Nat} {cs : Array Value} {fz : Nat × Nat} (hb : w.heap[sb]? = some (.cells cs 58 fz)) (hG : GX sb w w') : Dl Z B w' p r f T K F := by
  have hnf := h.apart hb (by decide) (by decide) (by decide)
  obtain ⟨V, ⟨hZ, h0, born, fs, hd, h1, h2⟩, h3, h4, h5⟩ := h
  subst h2
  obtain ⟨c, hm, hc⟩ := hd.map
  obtain ⟨_, _, _, gs, ge⟩ := hG
  have ho : ∀ b, Foot p r fs b → w'.heap[b]? = w.heap[b]? := fun b hbf => ge b (hd.foot_lt hbf).2 (fun e => hnf (by cases e; exact hbf))
  refine ⟨V, ⟨hZ, h0, born, fs, ⟨(ho p (.inl rfl)).trans hd.self, ⟨c, (ho r (.inr (.inl rfl))).trans hm, hc⟩, hd.names, hd.borns, hd.fbs, hd.rows, fun f hf => ?_, hd.base.1, hd.base.2.1, Nat.le_trans hd.base.2.2 gs⟩, h1, rfl⟩, h3, h4, h5⟩
  have hfa := hd.files f hf
  exact ⟨(ho _ (.inr (.inr ⟨f, hf, .inl rfl⟩))).trans hfa.cell, hfa.row.keep (fun b hb => ho b (.inr (.inr ⟨f, hf, .inr hb⟩))), hfa.base, hfa.sync⟩

theorem Row1.gx {e : TypeId} {B : Nat} {w w' : World} {v : Value} {xs : List Value} (h : Go.Gl.Row1 e B w v xs) {sb : Nat} {cs : Array Value} {fz : Nat × Nat} (hb : w.heap[sb]? = some (.cells cs 58 fz)) (he : e ≠ 58) (hG : GX sb w w') : Go.Gl.Row1 e B w' v xs :=
  h.keep fun g hg => by
    obtain ⟨cur, hc⟩ := h.block hg
    rw [hG.heap hc (ne_type hc hb he), hc]
theorem OwnR.gx {B : Nat} {w w' : World} {v : Value} {ps : List (List UInt8)} (h : OwnR B w v ps) {sb : Nat} {cs : Array Value} {fz : Nat × Nat} (hb : w.heap[sb]? = some (.cells cs 58 fz)) (hG : GX sb w w') : OwnR B w' v ps := by
  obtain ⟨vals, h1, h2, h3⟩ := h
  exact ⟨vals, Row1.gx h1 hb (by decide) hG, h2, fun i u p hu hp => Row1.gx (h3 i u p hu hp) hb (by decide) hG⟩
theorem own_gx {B : Nat} {w w' : World} {v : Value} {l : List Tb} (h : Own B w v l) {sb : Nat} {cs : Array Value} {fz : Nat × Nat} (hb : w.heap[sb]? = some (.cells cs 58 fz)) (hG : GX sb w w') : Own B w' v l := own_block_keep h fun g hg => by
  obtain ⟨cur, hc, _⟩ := own_at h hg
  rw [hG.heap hc (ne_type hc hb (by decide)), hc]
theorem Rl.gx {B : Nat} {w w' : World} {sb : Nat} {cs : Array Value} {fz : Nat × Nat} (hb : w.heap[sb]? = some (.cells cs 58 fz)) (hB : B ≤ sb) (hG : GX sb w w') : Rl B w w' := by
  have hs := lt_of_getElem? hb
  obtain ⟨ga, gb, gc, gd, ge⟩ := hG
  refine ⟨⟨ga, gb, gc, gd, fun b arr t f h ht => ?_⟩, ⟨ga, gb, gc, gd, fun b h => ge b (by omega) (fun e => by cases e; omega)⟩⟩
  rw [ge b (lt_of_getElem? h) (fun e => ?_)]
  · exact h
  · cases e; rw [hb] at h; cases h; exact ht (.inr (.inr (.inr rfl)))

theorem applyAll_split : ∀ (a : List EdD) {b : List EdD} {v V : VerD}, applyAllD v (a ++ b) = (0, V) → ∃ U, applyAllD v a = (0, U) ∧ applyAllD U b = (0, V)
  | [], b, v, V, h => ⟨v, rfl, h⟩
  | e :: a, b, v, V, h => by
    rw [List.cons_append] at h
    unfold applyAllD at h
    by_cases h0 : (applyD v e).1 = 0
    · rw [if_pos h0] at h
      obtain ⟨U, h1, h2⟩ := applyAll_split a h
      exact ⟨U, by unfold applyAllD; rw [if_pos h0]; exact h1, h2⟩
    · rw [if_neg h0] at h
      exact absurd (congrArg Prod.fst h) h0

theorem applyAll_len : ∀ (a : List EdD) {v V : VerD}, applyAllD v a = (0, V) → V.tabs.length ≤ v.tabs.length + (a.map (fun e => e.add.length)).sum
  | [], v, V, h => by
    simp only [applyAllD, Prod.mk.injEq, true_and] at h
    subst h; simp
  | e :: a, v, V, h => by
    unfold applyAllD at h
    by_cases h0 : (applyD v e).1 = 0
    · rw [if_pos h0] at h
      have h1 := applyAll_len a h
      have h2 := applyD_len v e
      simp only [List.map_cons, List.sum_cons]
      omega
    · rw [if_neg h0] at h
      exact absurd (congrArg Prod.fst h) h0
end Go.Proofs.YtejpcoghkgjanaaGreatDoor
