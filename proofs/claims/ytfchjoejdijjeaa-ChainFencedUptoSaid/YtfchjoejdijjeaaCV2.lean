/- Merged out of FW, FX: helpers. -/
import Derived.Test.YtfchjoejdijjeaaCR2
import Derived.Test.YtfchjoejdijjeaaCT2
set_option linter.unusedSimpArgs false
set_option linter.unusedVariables false
/- The law's world: place; holds. -/
namespace Go.Proofs.Ytfchjoejdijjeaa
open Go.RowKit Go.Gl Go.Wal Go.Ch Go.Shelf
/-- A number as one of some. -/
def placeN (n : Int) (m : Nat) : Nat := (if Int.tmod n m < 0 then Int.tmod n m + m else Int.tmod n m).toNat
theorem tmod_lt {n : Int} {m : Nat} (hm : 0 < m) : Int.tmod n m < m ∧ -(m : Int) < Int.tmod n m := by
  have h1 := Int.tmod_lt_of_pos n (show (0 : Int) < (m : Int) by omega)
  have h2 := Int.lt_tmod_of_pos n (show (0 : Int) < (m : Int) by omega)
  exact ⟨h1, by omega⟩
theorem placeN_lt {n : Int} {m : Nat} (hm : 0 < m) : placeN n m < m := by
  have := tmod_lt (n := n) hm
  unfold placeN
  split <;> omega
theorem wplace_any {n : Int} {m : Nat} (hm : 0 < m) (hm2 : m ≤ 1000000000) (w : World) :
    Calls Try.prog 17 #[.int .i64 n, .int .i64 (m : Int)] w fun e w' => e = .returned (.int .i64 (placeN n m : Int)) ∧ w' = w := by
  have hb := tmod_lt (n := n) hm
  have h0 : ((m : Int) == 0) = false := by simp; omega
  have h0' : ¬ (m : Int) = 0 := by omega
  have hm1 : ¬ (m : Int) = -1 := by omega
  obtain ⟨q, hq⟩ : ∃ q, Int.tmod n m = q := ⟨_, rfl⟩
  have hpl : placeN n m = (if q < 0 then q + m else q).toNat := by unfold placeN; rw [hq]
  rw [hpl]
  rw [hq] at hb
  have hqw : IntKind.i64.wrap q = q := IntWalk.i64_in _ (by omega)
  have hqm : IntKind.i64.wrap (q + m) = q + m := IntWalk.i64_in _ (by omega)
  by_cases hneg : q < 0
  · have d0 : decide (q < 0) = true := by simp [hneg]
    rw [if_pos hneg]
    have he : ((q + m).toNat : Int) = q + m := by omega
    rw [he]
    clear he hpl hneg
    go_enter Try.func17, Try.ntmps17
    go_wp2
    go_ret
    exact ⟨rfl, rfl⟩
  · have d0 : decide (q < 0) = false := by simp; omega
    rw [if_neg hneg]
    have he : (q.toNat : Int) = q := by omega
    rw [he]
    clear he hpl hneg
    go_enter Try.func17, Try.ntmps17
    go_wp2
    go_ret
    exact ⟨rfl, rfl⟩
section
variable {C : Type} {f : C → List UInt8} {F0 : Nat → Prop} {w wr w2 : World} {wb P L K : Nat} {W : Wd C}
theorem LookAt.config {i : Nat} {d : Nd} {b : Box C} {g gc nb gx gxc bb : Nat} {ba : Option Addr} {bc : Nat} (h : LookAt f wr wb P i d b g gc nb gx gxc bb ba bc) : Calls Try.prog 25 #[.pointer (some ⟨nb, 0, none⟩)] wr fun e w' => (∃ x y, e = .returned (cfgV d.cfg.epoch x y)) ∧ Grow wr w' := by
  obtain ⟨N, cv, cfv, sv, hn⟩ := h.nd
  refine (nconfig_any hn).mono ?_
  rintro e w' ⟨x, y, he, hg⟩
  exact ⟨⟨x, y, he⟩, hg⟩
theorem LookAt.cmdAt {i : Nat} {d : Nd} {b : Box C} {g gc nb gx gxc bb : Nat} {ba : Option Addr} {bc : Nat} (h : LookAt f wr wb P i d b g gc nb gx gxc bb ba bc) {k : Nat} {c : C} (hc : b.cmds[k]? = some c) :
    ∃ gg ua uc, ba = some ⟨gg, 0, none⟩ ∧ gg < wr.heap.size ∧ wr.cell? ⟨gg, k, none⟩ = some (.slice ua (f c).length uc) ∧ Bv wr (.slice ua (f c).length uc) (f c) := by
  obtain ⟨N, cv, cfv, sv, hn⟩ := h.nd
  obtain ⟨gg, cap, u, e, hg, hcell, hu⟩ := hn.box.row.get hc
  obtain ⟨ua, uc, rfl⟩ := hu.slice
  have h0 := hn.box.cells.1
  rw [h.cb, e] at h0
  injection h0 with h0
  injection h0 with h1 h2 h3
  exact ⟨gg, ua, uc, h1, hg, hcell, hu.1⟩
theorem Wt.now (h : Wt f F0 w wb P L K W wr) : ∃ gk kc, wr.cell? ⟨wb, 4, none⟩ = some (.slice (some ⟨gk, 0, none⟩) W.cfgs.length kc) ∧ gk < wr.heap.size ∧ wr.cell? ⟨gk, (W.cfgs.length - 1) * 3, none⟩ = some (.int .i64 (W.now.epoch : Int)) := by
  obtain ⟨V, ps, h1, h2, h3, h4⟩ := h
  have h0 := h3.c0
  obtain ⟨c, hc⟩ : ∃ c, W.cfgs[W.cfgs.length - 1]? = some c := ⟨W.cfgs[W.cfgs.length - 1]'(by omega), by simp [show W.cfgs.length - 1 < W.cfgs.length by omega]⟩
  obtain ⟨gk, kc, cv, sv, hkv, hgk, k0, k1, k2, hcf⟩ := h2.cfgs.get hc
  have : W.now = c := cfg_of hc
  exact ⟨gk, kc, by rw [← hkv]; exact h2.cells.2.2.2.2.1, hgk, by rw [this]; exact k0⟩
end
section
variable {C : Type} [DecidableEq C] {f : C → List UInt8} {F0 : Nat → Prop} {w wr w2 : World} {wb P L K : Nat} {W : Wd C}
theorem holds_parts (hh : W.holds = true) (hn : W.nds.length = P) : W.ok = true ∧ ∀ i, i < P → wholeB (W.nd i) (W.box i) = true → (W.nd i).cfg.epoch = W.now.epoch → W.row.length ≤ (W.box i).cmds.length ∧ ∀ (k : Nat) (c : C), W.row[k]? = some c → (W.box i).cmds[k]? = some c := by
  unfold Wd.holds at hh
  simp only [Bool.and_eq_true, List.all_eq_true, List.mem_range] at hh
  refine ⟨hh.1, fun i hi h1 h2 => ?_⟩
  have h3 := hh.2 i (by rw [hn]; exact hi)
  unfold Wd.holdsAt at h3
  simp only [h1, h2, Bool.true_and, decide_true, Bool.not_true, Bool.false_or, Bool.and_eq_true, decide_eq_true_eq] at h3
  refine ⟨h3.1, fun k c hk => ?_⟩
  rw [← h3.2, List.getElem?_take] at hk
  split at hk
  · exact hk
  · cases hk
set_option maxRecDepth 100000 in
set_option maxHeartbeats 8000000 in
theorem wholds_any (h : Wt f F0 w wb P L K W wr) (hP : P ≤ 16) (hK : K ≤ 1000000) (hL : L ≤ 90000) (hh : W.holds = true) :
    Calls Try.prog 10 #[.pointer (some ⟨wb, 0, none⟩)] wr fun e w' => e = .returned (.bool true) ∧ Grow wr w' := by
  have hwg := h.wrong
  obtain ⟨hok, hall⟩ := holds_parts hh h.nds
  rw [hok] at hwg
  obtain ⟨lw, _, _, _, ⟨ra, rc, c5⟩, hc0, hc1, _, hrl⟩ := h.read
  have H := Lib.hid h
  have Hall := Lib.hid hall
  clear h hh hok hall
  go_enter Try.func10, Try.ntmps10
  go_wp2_with fail
  have hgd := Grow.drew wr
  have hd := H.out.grow hgd
  obtain ⟨gk, kc, k4, lgk, ke⟩ := hd.now
  have lwd := Nat.lt_of_lt_of_le lw hgd.size
  obtain ⟨n, hn⟩ : ∃ q, W.cfgs.length - 1 = q := ⟨_, rfl⟩
  rw [hn] at ke
  have hn1 : IntKind.i64.wrap (n : Int) = (n : Int) := IntWalk.i64_in _ (by omega)
  have hn2 : (W.cfgs.length : Int) - 1 = (n : Int) := by omega
  have hn4 : (n : Int) < (W.cfgs.length : Int) := by omega
  obtain ⟨E0, hE0⟩ : ∃ q, W.now.epoch = q := ⟨_, rfl⟩
  rw [hE0] at ke
  have HE0 := Lib.hid hE0
  have Hd := Lib.hid hd
  have Hrl := Lib.hid hrl
  clear hd hE0 hwg c5 hn hc0 hc1 H hrl lw
  refine wp_region_row (fun W => W = wr.drew) [] (by kernel_rfl) (fun c a d v w h => by cases d <;> exact h) rfl ?_
  obtain ⟨wd, hwd⟩ : ∃ W, W = wr.drew := ⟨_, rfl⟩
  simp only [← hwd] at k4 lgk ke lwd hgd Hd ⊢
  clear hwd
  have Hgd := Lib.hid hgd
  clear hgd
  simp only [inRow]
  repeat ((first | (apply wpPi_quiet; rfl; rintro W rfl; go_simp; with_reducible rfl) | (apply wpPi_off; rfl)); simp only [putA, List.set])
  refine wpPi_nil ?_
  clear k4 lgk ke lwd hn1 hn2 hn4
  go_wp2_with fail
  obtain ⟨wz, hwz⟩ : ∃ W, W = wd := ⟨_, rfl⟩
  subst hwz
  go_loopw [4] (fun iv wr => ∃ i : Nat, iv = .int .i64 i ∧ i ≤ P ∧ Grow wz wr) (fun iv _ => P - (intOf iv).toNat)
  case atStart => exact ⟨0, rfl, Nat.zero_le _, Grow.refl _⟩
  case round =>
    obtain ⟨i, rfl, hi, hg⟩ := hrel
    have Hg := Lib.hid hg
    obtain ⟨lw, ⟨na, nc, c0⟩, _⟩ := (Hd.out.grow hg).read
    by_cases hlt : i < P
    · obtain ⟨g, gc, nb, gx, gxc, bb, ba, bc, hl⟩ := (Hd.out.grow hg).look (i := i) hlt
      have hi1 : (i : Int) < (P : Int) := by omega
      have HL := Lib.hid hl
      have Hwh := Lib.hid hl.whole
      obtain ⟨bw, hbw⟩ : ∃ q, wholeB (W.nd i) (W.box i) = q := ⟨_, rfl⟩
      rw [hbw] at Hwh
      have Hbw := Lib.hid hbw
      have k0 := hl.c0
      have k2 := hl.cn
      have l1 := hl.lg
      clear hl hbw hg c0
      go_wp2_with fail
      (with_reducible refine Hwh.out.mono ?_)
      rintro e w3 ⟨rfl, hg3⟩
      have HG3 := Lib.hid (Hg.out.trans hg3)
      have hl := HL.out.grow hg3
      clear k0 k2 l1 lw Hwh hg3
      cases bw with
      | false =>
        clear hl
        go_wp2
        go_roundw
        case rel => exact ⟨i + 1, by simp, hlt, HG3.out⟩
        case measure => simp [intOf]; omega
      | true =>
        have Hcf := Lib.hid hl.config
        obtain ⟨be, hbe⟩ : ∃ q, (((W.nd i).cfg.epoch : Int) != (E0 : Int)) = q := ⟨_, rfl⟩
        have Hbe := Lib.hid hbe
        have HL3 := Lib.hid hl
        have k0 := hl.c0
        have k2 := hl.cn
        have l0 := hl.lw
        have l1 := hl.lg
        clear hl
        go_wp2_with fail
        (with_reducible refine Hcf.out.mono ?_)
        rintro e w4 ⟨⟨x, y, rfl⟩, hg4⟩
        have hfe := fun W2 => field_epoch W2 ((W.nd i).cfg.epoch : Int) x y
        have HG4 := Lib.hid (HG3.out.trans hg4)
        have HL4 := Lib.hid (HL3.out.grow hg4)
        clear k0 k2 l0 l1 hg4 Hcf
        cases be with
        | true =>
          go_wp2
          go_roundw
          case rel => exact ⟨i + 1, by simp, hlt, HG4.out⟩
          case measure => simp [intOf]; omega
        | false =>
          have hee : (W.nd i).cfg.epoch = W.now.epoch := by
            have h1 : ((W.nd i).cfg.epoch : Int) = (E0 : Int) := by simpa using Hbe.out
            rw [HE0.out]; omega
          obtain ⟨hle, hcmds⟩ := Hall.out i hlt Hbw.out hee
          have Hcmds := Lib.hid hcmds
          obtain ⟨CL, hCL⟩ : ∃ q, (W.box i).cmds.length = q := ⟨_, rfl⟩
          obtain ⟨RL, hRL⟩ : ∃ q, W.row.length = q := ⟨_, rfl⟩
          rw [hCL, hRL] at hle
          have HCL := Lib.hid hCL
          have HRL := Lib.hid hRL
          have hRb : RL ≤ 90000 := by have := Hrl.out; omega
          have d1 : decide ((CL : Int) < (RL : Int)) = false := by simp; omega
          have d2 : decide (CL < RL) = false := by simp; omega
          clear hcmds hCL hRL hee Hbe
          go_wp2_with fail
          refine wp_region_row (fun W => W = w4.drew) [] (by kernel_rfl) (fun c a d v w h => by cases d <;> exact h) rfl ?_
          have hgd := Grow.drew w4
          obtain ⟨w5, hw5⟩ : ∃ W, W = w4.drew := ⟨_, rfl⟩
          rw [← hw5] at hgd
          simp only [← hw5]
          clear hw5
          have hl := HL4.out.grow hgd
          have hg5 := HG4.out.trans hgd
          obtain ⟨lw, _, _, _, ⟨ra, rc, c5⟩, _⟩ := (Hd.out.grow hg5).read
          have k1 := hl.c1
          have k2 := hl.cx
          have k3 := hl.cb
          have l1 := hl.lx
          have l2 := hl.lb
          rw [HCL.out] at k3
          rw [HRL.out] at c5
          have HL5 := Lib.hid hl
          have HG5 := Lib.hid hg5
          clear hl hg5 hgd
          simp only [inRow]
          repeat ((first | (apply wpPi_quiet; rfl; rintro W rfl; go_simp; with_reducible rfl) | (apply wpPi_off; rfl)); simp only [putA, List.set])
          refine wpPi_nil ?_
          clear k1 k2 k3 l1 l2 d1 d2
          go_wp2_with fail
          obtain ⟨wy, hwy⟩ : ∃ W, W = w5 := ⟨_, rfl⟩
          subst hwy
          clear c5 lw
          go_loopw [5] (fun kv wr => ∃ k : Nat, kv = .int .i64 k ∧ k ≤ RL ∧ Grow wy wr) (fun kv _ => RL - (intOf kv).toNat)
          case atStart => exact ⟨0, rfl, Nat.zero_le _, Grow.refl _⟩
          case round =>
            obtain ⟨k, rfl, hk, hg⟩ := hrel
            have Hgk := Lib.hid hg
            obtain ⟨lw, _, _, _, ⟨ra, rc, c5⟩, _⟩ := (Hd.out.grow (HG5.out.trans hg)).read
            rw [HRL.out] at c5
            by_cases hlk : k < RL
            · have hk1 : (k : Int) < (RL : Int) := by omega
              have hk2 : (k : Int) < (CL : Int) := by omega
              obtain ⟨c, hc⟩ : ∃ c, W.row[k]? = some c := ⟨W.row[k]'(by have := HRL.out; omega), by simp [show k < W.row.length by have := HRL.out; omega]⟩
              have hgd := hg.trans (Grow.drew wr)
              have hwd := Hd.out.grow (HG5.out.trans hgd)
              obtain ⟨g5, cap5, ua, uc, z5, lg5, z6, hbv⟩ := hwd.rowAt hc
              rw [HRL.out] at z5
              have hl := HL5.out.grow hgd
              obtain ⟨gg, va, vc, hba, lgg, z7, hbv2⟩ := hl.cmdAt (Hcmds.out k c hc)
              have lwd := hwd.read.1
              have q1 := hl.c1
              have q2 := hl.cx
              have q3 := hl.cb
              have q4 := hl.lx
              have q5 := hl.lb
              rw [HCL.out, hba] at q3
              have hc1 := conv_text hbv
              have hc2 := conv_text hbv2
              have Hgd2 := Lib.hid hgd
              clear hc hwd hbv hbv2 hl hba hg hgd
              go_wp2_with fail
              refine wp_region_row (fun W => W = wr.drew) [] (by kernel_rfl) (fun c a d v w h => by cases d <;> exact h) rfl ?_
              obtain ⟨wx, hwx⟩ : ∃ W, W = wr.drew := ⟨_, rfl⟩
              simp only [← hwx] at z5 lg5 z6 lgg z7 lwd q1 q2 q3 q4 q5 hc1 hc2 Hgd2 ⊢
              clear hwx
              simp only [inRow]
              repeat ((first | (apply wpPi_quiet; rfl; rintro W rfl; go_simp; with_reducible rfl) | (apply wpPi_off; rfl)); simp only [putA, List.set])
              refine wpPi_nil ?_
              go_wp2
              go_roundw
              case rel => exact ⟨k + 1, by simp, hlk, Hgd2.out⟩
              case measure => simp [intOf]; omega
            · have hkr : RL = k := by omega
              subst hkr
              have Hfin := Lib.hid (HG5.out.trans hg)
              clear hg hlk hk
              go_wp2
              go_roundw
              case rel => exact ⟨i + 1, by simp, hlt, Hfin.out⟩
              case measure => simp [intOf]; omega
    · have hip : P = i := by omega
      subst hip
      have Hfin := Lib.hid (Hgd.out.trans hg)
      clear hg hlt hi
      go_wp2
      go_ret
      exact ⟨rfl, Hfin.out⟩
end
end Go.Proofs.Ytfchjoejdijjeaa

/- ChainFenced's law over numbers, by running the model. -/
namespace Go.Ch
namespace Fc
/-- Commands 1, 2, .. at a node. -/
def subs (h : Nat) (w : Wd Nat) : Nat → Wd Nat
  | 0 => w
  | j + 1 => (subs h w j).submit h (j + 1)
def conf (who last : Nat) (w : Wd Nat) : Nat → Wd Nat
  | 0 => w
  | i + 1 => if i = who then conf who last w i else (conf who last w i).configure i last
def beats (w : Wd Nat) : Nat → Wd Nat
  | 0 => w
  | i + 1 => (beats w i).beat i
def rounds (w : Wd Nat) : Nat → Wd Nat
  | 0 => w
  | k + 1 => Wd.flush 3000 (beats (rounds w k) 3)
def stA : Wd Nat := ((Ln.start 3).submit 0 0).settle 2
def stB (who : Nat) : Wd Nat := stA.command ⟨2, who, 0, 0⟩
def stD (who : Nat) : Wd Nat := conf who ((stB who).cfgs.length - 1) (stB who) 3
def stE (who n : Nat) : Wd Nat := if who = 0 then subs 0 (stD who) n else stD who
def stF (who n : Nat) : Wd Nat := Wd.flush 3000 (stE who n)
def hd (who : Nat) : Nat := if who = 0 then 1 else 0
def stG (who n : Nat) : Wd Nat := subs (hd who) (stF who n) n
def stH (who n : Nat) : Wd Nat := rounds (stG who n) 4
def tks (h : Nat) (w : Wd Nat) : Nat → Bool
  | 0 => true
  | j + 1 => tks h w j && takes ((subs h w j).nd h) ((subs h w j).box h)
def check (who n : Nat) : Bool := decide ((stF who n).row.length = (stD who).row.length) && tks (hd who) (stF who n) n && (stH who n).ok && decide ((stH who n).row.length = (stD who).row.length + n) && (stH who n).holds
def all (who : Nat) : Bool := (List.range 21).all fun n => check who n
theorem all0 : all 0 = true := by kernel_rfl
theorem all1 : all 1 = true := by kernel_rfl
theorem all2 : all 2 = true := by kernel_rfl
theorem chk {who n : Nat} (hw : who < 3) (hn : n ≤ 20) : check who n = true := by
  have h : all who = true := by
    rcases (show who = 0 ∨ who = 1 ∨ who = 2 by omega) with rfl | rfl | rfl
    · exact all0
    · exact all1
    · exact all2
  unfold all at h
  exact List.all_eq_true.1 h n (List.mem_range.2 (by omega))
theorem tks_at {h : Nat} {w : Wd Nat} : ∀ {n : Nat}, tks h w n = true → ∀ j, j < n → takes ((subs h w j).nd h) ((subs h w j).box h) = true
  | 0, _, j, hj => by omega
  | n + 1, ht, j, hj => by
    simp only [tks, Bool.and_eq_true] at ht
    by_cases hjn : j = n
    · subst hjn; exact ht.2
    · exact tks_at ht.1 j (by omega)
theorem parts {who n : Nat} (hw : who < 3) (hn : n ≤ 20) : (stF who n).row.length = (stD who).row.length ∧ (∀ j, j < n → takes ((subs (hd who) (stF who n) j).nd (hd who)) ((subs (hd who) (stF who n) j).box (hd who)) = true) ∧ (stH who n).ok = true ∧ (stH who n).row.length = (stD who).row.length + n ∧ (stH who n).holds = true := by
  have h := chk hw hn
  unfold check at h
  simp only [Bool.and_eq_true, decide_eq_true_eq] at h
  exact ⟨h.1.1.1.1, tks_at h.1.1.1.2, h.1.1.2, h.1.2, h.2⟩
theorem ok_down {f : Nat → Wd Nat} (h : ∀ k, (f (k + 1)).ok = true → (f k).ok = true) : ∀ {n : Nat}, (f n).ok = true → ∀ k, k ≤ n → (f k).ok = true
  | 0, hn, k, hk => by rw [show k = 0 by omega]; exact hn
  | n + 1, hn, k, hk => by
    by_cases hkn : k = n + 1
    · rw [hkn]; exact hn
    · exact ok_down h (h n hn) k (by omega)
theorem subs_ok {h : Nat} {w : Wd Nat} {n : Nat} (hn : (subs h w n).ok = true) (k : Nat) (hk : k ≤ n) : (subs h w k).ok = true := ok_down (f := subs h w) (fun k hk => put_ok1 hk) hn k hk
theorem conf_ok {who last : Nat} {w : Wd Nat} {n : Nat} (hn : (conf who last w n).ok = true) (k : Nat) (hk : k ≤ n) : (conf who last w k).ok = true := ok_down (f := conf who last w) (fun k hk => by
  unfold conf at hk
  split at hk
  · exact hk
  · exact put_ok1 hk) hn k hk
theorem beats_ok {w : Wd Nat} {n : Nat} (hn : (beats w n).ok = true) (k : Nat) (hk : k ≤ n) : (beats w k).ok = true := ok_down (f := beats w) (fun k hk => beat_ok1 hk) hn k hk
theorem rounds_ok {w : Wd Nat} {n : Nat} (hn : (rounds w n).ok = true) (k : Nat) (hk : k ≤ n) : (rounds w k).ok = true := ok_down (f := rounds w) (fun k hk => beats_ok (flush_ok1 hk) 0 (Nat.zero_le _)) hn k hk
section
variable {who n : Nat}
theorem okG (hw : who < 3) (hn : n ≤ 20) : (stG who n).ok = true := rounds_ok (parts hw hn).2.2.1 0 (Nat.zero_le _)
theorem okF (hw : who < 3) (hn : n ≤ 20) : (stF who n).ok = true := subs_ok (okG hw hn) 0 (Nat.zero_le _)
theorem okE (hw : who < 3) (hn : n ≤ 20) : (stE who n).ok = true := flush_ok1 (okF hw hn)
theorem okD (hw : who < 3) : (stD who).ok = true := by
  have h := okE hw (n := 0) (Nat.zero_le _)
  unfold stE at h
  split at h <;> exact h
theorem okB (hw : who < 3) : (stB who).ok = true := conf_ok (okD hw) 0 (Nat.zero_le _)
theorem okA : stA.ok = true := by
  have h := okB (who := 0) (by decide)
  unfold stB at h
  rw [command_ok] at h
  exact h
theorem okA1 : ((Ln.start 3).submit 0 0).ok = true := settle_ok1 okA
theorem okS : (Ln.start 3).ok = true := put_ok1 okA1
end
theorem stA_eq : stA = ((Ln.start 3).submit 0 0).settle 2 := by unfold stA; rfl
theorem stB_eq (who : Nat) : stB who = stA.command ⟨2, who, 0, 0⟩ := by unfold stB; rfl
theorem stD_eq (who : Nat) : stD who = conf who ((stB who).cfgs.length - 1) (stB who) 3 := by unfold stD; rfl
theorem stE_0 {who : Nat} (h : who = 0) (n : Nat) : stE who n = subs 0 (stD who) n := by unfold stE; rw [if_pos h]
theorem stE_1 {who : Nat} (h : ¬ who = 0) (n : Nat) : stE who n = stD who := by unfold stE; rw [if_neg h]
theorem stF_eq (who n : Nat) : stF who n = Wd.flush 3000 (stE who n) := by unfold stF; rfl
theorem stG_eq (who n : Nat) : stG who n = subs (hd who) (stF who n) n := by unfold stG; rfl
theorem stH_eq (who n : Nat) : stH who n = rounds (stG who n) 4 := by unfold stH; rfl
theorem conf_0 (who last : Nat) (w : Wd Nat) : conf who last w 0 = w := rfl
theorem conf_at (last i : Nat) (w : Wd Nat) : conf i last w (i + 1) = conf i last w i := by rw [conf, if_pos rfl]
theorem conf_ne {who i : Nat} (h : ¬ i = who) (last : Nat) (w : Wd Nat) : conf who last w (i + 1) = (conf who last w i).configure i last := by rw [conf, if_neg h]
theorem subs_0 (h : Nat) (w : Wd Nat) : subs h w 0 = w := rfl
theorem subs_s (h : Nat) (w : Wd Nat) (j : Nat) : subs h w (j + 1) = (subs h w j).submit h (j + 1) := rfl
theorem beats_0 (w : Wd Nat) : beats w 0 = w := rfl
theorem beats_s (w : Wd Nat) (i : Nat) : beats w (i + 1) = (beats w i).beat i := rfl
theorem rounds_0 (w : Wd Nat) : rounds w 0 = w := rfl
theorem rounds_s (w : Wd Nat) (k : Nat) : rounds w (k + 1) = Wd.flush 3000 (beats (rounds w k) 3) := rfl
/-- All that the walk is told of the model's worlds. -/
structure Told (who n : Nat) (A B D E F G H : Wd Nat) (last : Nat) : Prop where
  a : ∀ S, S = Ln.start 3 → (S.submit 0 0).settle 2 = A
  b : A.command ⟨2, who, 0, 0⟩ = B
  l : B.cfgs.length - 1 = last
  d : conf who last B 3 = D
  e0 : who = 0 → subs 0 D n = E
  e1 : ¬ who = 0 → D = E
  f : Wd.flush 3000 E = F
  g : subs (hd who) F n = G
  h : rounds G 4 = H
  okA : A.ok = true
  okD : D.ok = true
  okE : E.ok = true
  okF : F.ok = true
  okG : G.ok = true
  okH : H.ok = true
  rowF : F.row.length = D.row.length
  tk : ∀ j, j < n → takes ((subs (hd who) F j).nd (hd who)) ((subs (hd who) F j).box (hd who)) = true
  rowH : H.row.length = D.row.length + n
  holds : H.holds = true
theorem told {who n : Nat} (hw : who < 3) (hn : n ≤ 20) : ∃ A B D E F G H last, Told who n A B D E F G H last := by
  have p := parts hw hn
  exact ⟨stA, stB who, stD who, stE who n, stF who n, stG who n, stH who n, (stB who).cfgs.length - 1, fun S hS => by rw [hS, stA_eq], (stB_eq who).symm, rfl, (stD_eq who).symm, fun h => (stE_0 h n).symm, fun h => (stE_1 h n).symm, (stF_eq who n).symm, (stG_eq who n).symm, (stH_eq who n).symm, Fc.okA, Fc.okD hw, Fc.okE hw hn, Fc.okF hw hn, Fc.okG hw hn, p.2.2.1, p.1, p.2.1, p.2.2.2.1, p.2.2.2.2⟩
end Fc
end Go.Ch
