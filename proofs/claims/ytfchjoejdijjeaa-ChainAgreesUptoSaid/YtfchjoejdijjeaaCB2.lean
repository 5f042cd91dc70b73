/- Merged out of FW, GB: helpers. -/
import Derived.Test.YtfchjoejdijjeaaCR2
import Derived.Test.YtfchjoejdijjeaaCA2
import Derived.Test.YtfchjoejdijjeaaCH2
set_option linter.unusedSimpArgs false
set_option linter.unusedVariables false
/- The law's world: place; holds. -/
namespace Go.Proofs.Ytfchjoejdijjeaa
open Go.RowKit Go.Gl Go.Wal Go.Ch Go.Shelf
/-- A number as one of some. -/
def placeN (n : Int) (m : Nat) : Nat := (if Int.tmod n m < 0 then Int.tmod n m + m else Int.tmod n m).toNat
theorem tmod_lt {n : Int} {m : Nat} (hm : 0 < m) : Int.tmod n m < m ∧ -(m : Int) < Int.tmod n m := by
  have h1 := Int.tmod_lt_of_pos n (show (0 : Int) < (m : Int) by omega)
  have h2 := Int.lt_tmod_of_pos n (show (0 : Int) < (m : Int) by omega)
  exact ⟨h1, by omega⟩
theorem placeN_lt {n : Int} {m : Nat} (hm : 0 < m) : placeN n m < m := by
  have := tmod_lt (n := n) hm
  unfold placeN
  split <;> omega
theorem wplace_any {n : Int} {m : Nat} (hm : 0 < m) (hm2 : m ≤ 1000000000) (w : World) :
    Calls Try.prog 17 #[.int .i64 n, .int .i64 (m : Int)] w fun e w' => e = .returned (.int .i64 (placeN n m : Int)) ∧ w' = w := by
  have hb := tmod_lt (n := n) hm
  have h0 : ((m : Int) == 0) = false := by simp; omega
  have h0' : ¬ (m : Int) = 0 := by omega
  have hm1 : ¬ (m : Int) = -1 := by omega
  obtain ⟨q, hq⟩ : ∃ q, Int.tmod n m = q := ⟨_, rfl⟩
  have hpl : placeN n m = (if q < 0 then q + m else q).toNat := by unfold placeN; rw [hq]
  rw [hpl]
  rw [hq] at hb
  have hqw : IntKind.i64.wrap q = q := IntWalk.i64_in _ (by omega)
  have hqm : IntKind.i64.wrap (q + m) = q + m := IntWalk.i64_in _ (by omega)
  by_cases hneg : q < 0
  · have d0 : decide (q < 0) = true := by simp [hneg]
    rw [if_pos hneg]
    have he : ((q + m).toNat : Int) = q + m := by omega
    rw [he]
    clear he hpl hneg
    go_enter Try.func17, Try.ntmps17
    go_wp2
    go_ret
    exact ⟨rfl, rfl⟩
  · have d0 : decide (q < 0) = false := by simp; omega
    rw [if_neg hneg]
    have he : (q.toNat : Int) = q := by omega
    rw [he]
    clear he hpl hneg
    go_enter Try.func17, Try.ntmps17
    go_wp2
    go_ret
    exact ⟨rfl, rfl⟩
section
variable {C : Type} {f : C → List UInt8} {F0 : Nat → Prop} {w wr w2 : World} {wb P L K : Nat} {W : Wd C}
theorem LookAt.config {i : Nat} {d : Nd} {b : Box C} {g gc nb gx gxc bb : Nat} {ba : Option Addr} {bc : Nat} (h : LookAt f wr wb P i d b g gc nb gx gxc bb ba bc) : Calls Try.prog 25 #[.pointer (some ⟨nb, 0, none⟩)] wr fun e w' => (∃ x y, e = .returned (cfgV d.cfg.epoch x y)) ∧ Grow wr w' := by
  obtain ⟨N, cv, cfv, sv, hn⟩ := h.nd
  refine (nconfig_any hn).mono ?_
  rintro e w' ⟨x, y, he, hg⟩
  exact ⟨⟨x, y, he⟩, hg⟩
theorem LookAt.cmdAt {i : Nat} {d : Nd} {b : Box C} {g gc nb gx gxc bb : Nat} {ba : Option Addr} {bc : Nat} (h : LookAt f wr wb P i d b g gc nb gx gxc bb ba bc) {k : Nat} {c : C} (hc : b.cmds[k]? = some c) :
    ∃ gg ua uc, ba = some ⟨gg, 0, none⟩ ∧ gg < wr.heap.size ∧ wr.cell? ⟨gg, k, none⟩ = some (.slice ua (f c).length uc) ∧ Bv wr (.slice ua (f c).length uc) (f c) := by
  obtain ⟨N, cv, cfv, sv, hn⟩ := h.nd
  obtain ⟨gg, cap, u, e, hg, hcell, hu⟩ := hn.box.row.get hc
  obtain ⟨ua, uc, rfl⟩ := hu.slice
  have h0 := hn.box.cells.1
  rw [h.cb, e] at h0
  injection h0 with h0
  injection h0 with h1 h2 h3
  exact ⟨gg, ua, uc, h1, hg, hcell, hu.1⟩
theorem Wt.now (h : Wt f F0 w wb P L K W wr) : ∃ gk kc, wr.cell? ⟨wb, 4, none⟩ = some (.slice (some ⟨gk, 0, none⟩) W.cfgs.length kc) ∧ gk < wr.heap.size ∧ wr.cell? ⟨gk, (W.cfgs.length - 1) * 3, none⟩ = some (.int .i64 (W.now.epoch : Int)) := by
  obtain ⟨V, ps, h1, h2, h3, h4⟩ := h
  have h0 := h3.c0
  obtain ⟨c, hc⟩ : ∃ c, W.cfgs[W.cfgs.length - 1]? = some c := ⟨W.cfgs[W.cfgs.length - 1]'(by omega), by simp [show W.cfgs.length - 1 < W.cfgs.length by omega]⟩
  obtain ⟨gk, kc, cv, sv, hkv, hgk, k0, k1, k2, hcf⟩ := h2.cfgs.get hc
  have : W.now = c := cfg_of hc
  exact ⟨gk, kc, by rw [← hkv]; exact h2.cells.2.2.2.2.1, hgk, by rw [this]; exact k0⟩
end
section
variable {C : Type} [DecidableEq C] {f : C → List UInt8} {F0 : Nat → Prop} {w wr w2 : World} {wb P L K : Nat} {W : Wd C}
theorem holds_parts (hh : W.holds = true) (hn : W.nds.length = P) : W.ok = true ∧ ∀ i, i < P → wholeB (W.nd i) (W.box i) = true → (W.nd i).cfg.epoch = W.now.epoch → W.row.length ≤ (W.box i).cmds.length ∧ ∀ (k : Nat) (c : C), W.row[k]? = some c → (W.box i).cmds[k]? = some c := by
  unfold Wd.holds at hh
  simp only [Bool.and_eq_true, List.all_eq_true, List.mem_range] at hh
  refine ⟨hh.1, fun i hi h1 h2 => ?_⟩
  have h3 := hh.2 i (by rw [hn]; exact hi)
  unfold Wd.holdsAt at h3
  simp only [h1, h2, Bool.true_and, decide_true, Bool.not_true, Bool.false_or, Bool.and_eq_true, decide_eq_true_eq] at h3
  refine ⟨h3.1, fun k c hk => ?_⟩
  rw [← h3.2, List.getElem?_take] at hk
  split at hk
  · exact hk
  · cases hk
set_option maxRecDepth 100000 in
set_option maxHeartbeats 8000000 in
theorem wholds_any (h : Wt f F0 w wb P L K W wr) (hP : P ≤ 16) (hK : K ≤ 1000000) (hL : L ≤ 90000) (hh : W.holds = true) :
    Calls Try.prog 10 #[.pointer (some ⟨wb, 0, none⟩)] wr fun e w' => e = .returned (.bool true) ∧ Grow wr w' := by
  have hwg := h.wrong
  obtain ⟨hok, hall⟩ := holds_parts hh h.nds
  rw [hok] at hwg
  obtain ⟨lw, _, _, _, ⟨ra, rc, c5⟩, hc0, hc1, _, hrl⟩ := h.read
  have H := Lib.hid h
  have Hall := Lib.hid hall
  clear h hh hok hall
  go_enter Try.func10, Try.ntmps10
  go_wp2_with fail
  have hgd := Grow.drew wr
  have hd := H.out.grow hgd
  obtain ⟨gk, kc, k4, lgk, ke⟩ := hd.now
  have lwd := Nat.lt_of_lt_of_le lw hgd.size
  obtain ⟨n, hn⟩ : ∃ q, W.cfgs.length - 1 = q := ⟨_, rfl⟩
  rw [hn] at ke
  have hn1 : IntKind.i64.wrap (n : Int) = (n : Int) := IntWalk.i64_in _ (by omega)
  have hn2 : (W.cfgs.length : Int) - 1 = (n : Int) := by omega
  have hn4 : (n : Int) < (W.cfgs.length : Int) := by omega
  obtain ⟨E0, hE0⟩ : ∃ q, W.now.epoch = q := ⟨_, rfl⟩
  rw [hE0] at ke
  have HE0 := Lib.hid hE0
  have Hd := Lib.hid hd
  have Hrl := Lib.hid hrl
  clear hd hE0 hwg c5 hn hc0 hc1 H hrl lw
  refine wp_region_row (fun W => W = wr.drew) [] (by kernel_rfl) (fun c a d v w h => by cases d <;> exact h) rfl ?_
  obtain ⟨wd, hwd⟩ : ∃ W, W = wr.drew := ⟨_, rfl⟩
  simp only [← hwd] at k4 lgk ke lwd hgd Hd ⊢
  clear hwd
  have Hgd := Lib.hid hgd
  clear hgd
  simp only [inRow]
  repeat ((first | (apply wpPi_quiet; rfl; rintro W rfl; go_simp; with_reducible rfl) | (apply wpPi_off; rfl)); simp only [putA, List.set])
  refine wpPi_nil ?_
  clear k4 lgk ke lwd hn1 hn2 hn4
  go_wp2_with fail
  obtain ⟨wz, hwz⟩ : ∃ W, W = wd := ⟨_, rfl⟩
  subst hwz
  go_loopw [4] (fun iv wr => ∃ i : Nat, iv = .int .i64 i ∧ i ≤ P ∧ Grow wz wr) (fun iv _ => P - (intOf iv).toNat)
  case atStart => exact ⟨0, rfl, Nat.zero_le _, Grow.refl _⟩
  case round =>
    obtain ⟨i, rfl, hi, hg⟩ := hrel
    have Hg := Lib.hid hg
    obtain ⟨lw, ⟨na, nc, c0⟩, _⟩ := (Hd.out.grow hg).read
    by_cases hlt : i < P
    · obtain ⟨g, gc, nb, gx, gxc, bb, ba, bc, hl⟩ := (Hd.out.grow hg).look (i := i) hlt
      have hi1 : (i : Int) < (P : Int) := by omega
      have HL := Lib.hid hl
      have Hwh := Lib.hid hl.whole
      obtain ⟨bw, hbw⟩ : ∃ q, wholeB (W.nd i) (W.box i) = q := ⟨_, rfl⟩
      rw [hbw] at Hwh
      have Hbw := Lib.hid hbw
      have k0 := hl.c0
      have k2 := hl.cn
      have l1 := hl.lg
      clear hl hbw hg c0
      go_wp2_with fail
      (with_reducible refine Hwh.out.mono ?_)
      rintro e w3 ⟨rfl, hg3⟩
      have HG3 := Lib.hid (Hg.out.trans hg3)
      have hl := HL.out.grow hg3
      clear k0 k2 l1 lw Hwh hg3
      cases bw with
      | false =>
        clear hl
        go_wp2
        go_roundw
        case rel => exact ⟨i + 1, by simp, hlt, HG3.out⟩
        case measure => simp [intOf]; omega
      | true =>
        have Hcf := Lib.hid hl.config
        obtain ⟨be, hbe⟩ : ∃ q, (((W.nd i).cfg.epoch : Int) != (E0 : Int)) = q := ⟨_, rfl⟩
        have Hbe := Lib.hid hbe
        have HL3 := Lib.hid hl
        have k0 := hl.c0
        have k2 := hl.cn
        have l0 := hl.lw
        have l1 := hl.lg
        clear hl
        go_wp2_with fail
        (with_reducible refine Hcf.out.mono ?_)
        rintro e w4 ⟨⟨x, y, rfl⟩, hg4⟩
        have hfe := fun W2 => field_epoch W2 ((W.nd i).cfg.epoch : Int) x y
        have HG4 := Lib.hid (HG3.out.trans hg4)
        have HL4 := Lib.hid (HL3.out.grow hg4)
        clear k0 k2 l0 l1 hg4 Hcf
        cases be with
        | true =>
          go_wp2
          go_roundw
          case rel => exact ⟨i + 1, by simp, hlt, HG4.out⟩
          case measure => simp [intOf]; omega
        | false =>
          have hee : (W.nd i).cfg.epoch = W.now.epoch := by
            have h1 : ((W.nd i).cfg.epoch : Int) = (E0 : Int) := by simpa using Hbe.out
            rw [HE0.out]; omega
          obtain ⟨hle, hcmds⟩ := Hall.out i hlt Hbw.out hee
          have Hcmds := Lib.hid hcmds
          obtain ⟨CL, hCL⟩ : ∃ q, (W.box i).cmds.length = q := ⟨_, rfl⟩
          obtain ⟨RL, hRL⟩ : ∃ q, W.row.length = q := ⟨_, rfl⟩
          rw [hCL, hRL] at hle
          have HCL := Lib.hid hCL
          have HRL := Lib.hid hRL
          have hRb : RL ≤ 90000 := by have := Hrl.out; omega
          have d1 : decide ((CL : Int) < (RL : Int)) = false := by simp; omega
          have d2 : decide (CL < RL) = false := by simp; omega
          clear hcmds hCL hRL hee Hbe
          go_wp2_with fail
          refine wp_region_row (fun W => W = w4.drew) [] (by kernel_rfl) (fun c a d v w h => by cases d <;> exact h) rfl ?_
          have hgd := Grow.drew w4
          obtain ⟨w5, hw5⟩ : ∃ W, W = w4.drew := ⟨_, rfl⟩
          rw [← hw5] at hgd
          simp only [← hw5]
          clear hw5
          have hl := HL4.out.grow hgd
          have hg5 := HG4.out.trans hgd
          obtain ⟨lw, _, _, _, ⟨ra, rc, c5⟩, _⟩ := (Hd.out.grow hg5).read
          have k1 := hl.c1
          have k2 := hl.cx
          have k3 := hl.cb
          have l1 := hl.lx
          have l2 := hl.lb
          rw [HCL.out] at k3
          rw [HRL.out] at c5
          have HL5 := Lib.hid hl
          have HG5 := Lib.hid hg5
          clear hl hg5 hgd
          simp only [inRow]
          repeat ((first | (apply wpPi_quiet; rfl; rintro W rfl; go_simp; with_reducible rfl) | (apply wpPi_off; rfl)); simp only [putA, List.set])
          refine wpPi_nil ?_
          clear k1 k2 k3 l1 l2 d1 d2
          go_wp2_with fail
          obtain ⟨wy, hwy⟩ : ∃ W, W = w5 := ⟨_, rfl⟩
          subst hwy
          clear c5 lw
          go_loopw [5] (fun kv wr => ∃ k : Nat, kv = .int .i64 k ∧ k ≤ RL ∧ Grow wy wr) (fun kv _ => RL - (intOf kv).toNat)
          case atStart => exact ⟨0, rfl, Nat.zero_le _, Grow.refl _⟩
          case round =>
            obtain ⟨k, rfl, hk, hg⟩ := hrel
            have Hgk := Lib.hid hg
            obtain ⟨lw, _, _, _, ⟨ra, rc, c5⟩, _⟩ := (Hd.out.grow (HG5.out.trans hg)).read
            rw [HRL.out] at c5
            by_cases hlk : k < RL
            · have hk1 : (k : Int) < (RL : Int) := by omega
              have hk2 : (k : Int) < (CL : Int) := by omega
              obtain ⟨c, hc⟩ : ∃ c, W.row[k]? = some c := ⟨W.row[k]'(by have := HRL.out; omega), by simp [show k < W.row.length by have := HRL.out; omega]⟩
              have hgd := hg.trans (Grow.drew wr)
              have hwd := Hd.out.grow (HG5.out.trans hgd)
              obtain ⟨g5, cap5, ua, uc, z5, lg5, z6, hbv⟩ := hwd.rowAt hc
              rw [HRL.out] at z5
              have hl := HL5.out.grow hgd
              obtain ⟨gg, va, vc, hba, lgg, z7, hbv2⟩ := hl.cmdAt (Hcmds.out k c hc)
              have lwd := hwd.read.1
              have q1 := hl.c1
              have q2 := hl.cx
              have q3 := hl.cb
              have q4 := hl.lx
              have q5 := hl.lb
              rw [HCL.out, hba] at q3
              have hc1 := conv_text hbv
              have hc2 := conv_text hbv2
              have Hgd2 := Lib.hid hgd
              clear hc hwd hbv hbv2 hl hba hg hgd
              go_wp2_with fail
              refine wp_region_row (fun W => W = wr.drew) [] (by kernel_rfl) (fun c a d v w h => by cases d <;> exact h) rfl ?_
              obtain ⟨wx, hwx⟩ : ∃ W, W = wr.drew := ⟨_, rfl⟩
              simp only [← hwx] at z5 lg5 z6 lgg z7 lwd q1 q2 q3 q4 q5 hc1 hc2 Hgd2 ⊢
              clear hwx
              simp only [inRow]
              repeat ((first | (apply wpPi_quiet; rfl; rintro W rfl; go_simp; with_reducible rfl) | (apply wpPi_off; rfl)); simp only [putA, List.set])
              refine wpPi_nil ?_
              go_wp2
              go_roundw
              case rel => exact ⟨k + 1, by simp, hlk, Hgd2.out⟩
              case measure => simp [intOf]; omega
            · have hkr : RL = k := by omega
              subst hkr
              have Hfin := Lib.hid (HG5.out.trans hg)
              clear hg hlk hk
              go_wp2
              go_roundw
              case rel => exact ⟨i + 1, by simp, hlt, Hfin.out⟩
              case measure => simp [intOf]; omega
    · have hip : P = i := by omega
      subst hip
      have Hfin := Lib.hid (Hgd.out.trans hg)
      clear hg hlt hi
      go_wp2
      go_ret
      exact ⟨rfl, Hfin.out⟩
end
end Go.Proofs.Ytfchjoejdijjeaa

/- ChainAgrees: a move, plain; whatever the moves, it holds. -/
namespace Go.Ch
open Go.Proofs.Ytfchjoejdijjeaa
def kindM (k : Nat) : Nat := if k = 1 then 2 else if k = 3 then 4 else 1
namespace Wd
variable {C : Type} [DecidableEq C]
/-- A move, which stands for the command c. -/
def stepM (w : Wd C) (m : Turn) (c : C) : Wd C :=
  if 2 ≤ m.op ∧ m.op ≤ 4 then
    if w.bag.length = 0 then w else
    if m.op = 2 then w.deliver (placeN m.n w.bag.length) else if m.op = 3 then w.drop (placeN m.n w.bag.length) else w.dup (placeN m.n w.bag.length)
  else if m.op = 1 then w.submit (placeN m.node w.nds.length) c
  else if m.op = 5 then w.beat (placeN m.node w.nds.length)
  else if m.op = 6 then w.anew (placeN m.node w.nds.length)
  else if m.op = 7 then w.lose (placeN m.node w.nds.length)
  else if m.op = 8 then w.command ⟨kindM (placeN m.n 4), placeN m.node w.nds.length, w.births.getD (placeN m.node w.nds.length) 0, 0⟩
  else if m.op = 9 then w.configure (placeN m.node w.nds.length) (placeN m.n w.cfgs.length)
  else if m.op = 10 then w.whole (placeN m.node w.nds.length)
  else if m.op = 11 then w.flip (placeN m.node w.nds.length)
  else w
/-- What the bounds want. -/
structure Few (w : Wd C) (P k : Nat) : Prop where
  inv : Agr.Inv w
  nds : w.nds.length = P
  bag : w.bag.length ≤ 400 + k
  bir : ∀ n ∈ w.births, n ≤ k
end Wd
namespace Agr
variable {C : Type} [DecidableEq C] {w : Wd C}
theorem kindM_ok (k : Nat) : kindM k = 1 ∨ kindM k = 2 ∨ kindM k = 4 := by
  unfold kindM; split
  · exact .inr (.inl rfl)
  · split
    · exact .inr (.inr rfl)
    · exact .inl rfl
theorem Inv.step (h : Inv w) (hp : 0 < w.nds.length) (m : Turn) (c : C) : Inv (w.stepM m c) := by
  have hi : placeN m.node w.nds.length < w.nds.length := placeN_lt hp
  unfold Wd.stepM
  split
  · split
    · exact h
    · split
      · exact h.deliver _
      · split
        · exact h.drop _
        · exact h.dup _
  · split
    · exact h.submit hi c
    · split
      · exact h.beat hi
      · split
        · exact h.anew hi
        · split
          · exact h.lose hi
          · split
            · exact h.command hi (kindM_ok _)
            · split
              · exact h.configure hi _
              · split
                · exact h.whole hi
                · split
                  · exact h.flip hi
                  · exact h
theorem told_bag (w : Wd C) (i : Nat) (ms : List (Msg C)) (cs : List (Com C)) (k : Nat) (h : w.bag.length ≤ 400 + k) : (w.told i ms cs).bag.length ≤ 400 + k := by
  show (w.bag ++ ms.take (400 - w.bag.length)).length ≤ _
  simp; omega
theorem put_bag (w : Wd C) (i : Nat) (o : Out C) (k : Nat) (h : w.bag.length ≤ 400 + k) : (w.put i o).bag.length ≤ 400 + k := told_bag _ i _ _ k h
omit [DecidableEq C] in
theorem command_keeps (w : Wd C) (x : Cmd) : (w.command x).nds = w.nds ∧ (w.command x).bag = w.bag ∧ (w.command x).births = w.births := by
  unfold Wd.command; split <;> exact ⟨rfl, rfl, rfl⟩
theorem stepM_births (w : Wd C) (m : Turn) (c : C) : (w.stepM m c).births = w.births ∨ ∃ i, (w.stepM m c).births = w.births.set i (w.births.getD i 0 + 1) := by
  unfold Wd.stepM Wd.deliver Wd.dup Wd.whole
  repeat' split
  all_goals first
    | exact .inl rfl
    | exact .inl (command_keeps _ _).2.2
    | exact .inr ⟨_, rfl⟩
theorem getD_le {l : List Nat} {k : Nat} (h : ∀ n ∈ l, n ≤ k) (i : Nat) : l.getD i 0 ≤ k := by
  rw [List.getD_eq_getElem?_getD]
  cases hx : l[i]? with
  | none => exact Nat.zero_le _
  | some b => exact h b (List.mem_of_getElem? hx)
theorem Few.step {P k : Nat} (h : w.Few P k) (hp : 0 < P) (m : Turn) (c : C) : (w.stepM m c).Few P (k + 1) := by
  have hn := h.nds
  have hb := h.bag
  refine ⟨h.inv.step (by omega) m c, ?_, ?_, ?_⟩
  · unfold Wd.stepM Wd.deliver Wd.dup Wd.whole
    repeat' split
    all_goals first
      | exact hn
      | exact List.length_set.trans hn
      | (rw [(command_keeps _ _).1]; exact hn)
  · unfold Wd.stepM
    have hd : (w.drop (placeN m.n w.bag.length)).bag.length ≤ 400 + k := by
      show (w.bag.take _ ++ w.bag.drop _).length ≤ _
      simp; omega
    unfold Wd.deliver Wd.dup Wd.whole
    repeat' split
    all_goals first
      | (rw [(command_keeps _ _).2.1]; omega)
      | omega
      | exact Nat.le_succ_of_le (put_bag _ _ _ k hd)
      | exact Nat.le_succ_of_le (put_bag _ _ _ k hb)
      | exact Nat.le_succ_of_le (told_bag _ _ _ _ k hb)
      | exact Nat.le_succ_of_le hd
      | exact Nat.le_succ_of_le hb
      | (show (w.bag ++ [_]).length ≤ _; simp; omega)
  · intro n hn
    rcases stepM_births w m c with hb | ⟨i, hb⟩
    · rw [hb] at hn; exact Nat.le_succ_of_le (h.bir n hn)
    · rw [hb] at hn
      rcases List.mem_or_eq_of_mem_set hn with hn | hn
      · exact Nat.le_succ_of_le (h.bir n hn)
      · rw [hn]; exact Nat.succ_le_succ (getD_le h.bir i)
omit [DecidableEq C] in
theorem few_zero (many : Nat) : (Wd.fresh0 many : Wd C).Few many 0 :=
  ⟨fresh_inv many, by simp [Wd.fresh0], by simp [Wd.fresh0], fun n hn => by simp [Wd.fresh0] at hn; omega⟩
end Agr
end Go.Ch
