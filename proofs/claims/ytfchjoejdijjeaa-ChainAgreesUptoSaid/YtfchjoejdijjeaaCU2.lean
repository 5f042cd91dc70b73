/- Merged out of FU, FV: helpers. -/
import Derived.Test.YtfchjoejdijjeaaCR2
import Derived.Test.YtfchjoejdijjeaaCT2
import Derived.Deep.Slices
import Derived.Lib.SmallJoins
import Derived.ProofKit
set_option linter.unusedSimpArgs false
set_option linter.unusedVariables false
/- ChainLine returns true. -/
namespace Go.Proofs.Ytfchjoejdijjeaa
open Go.RowKit Go.Gl Go.Wal Go.Ch Go.Shelf
/-- The value reads as a row of payloads. -/
def Rv (w : World) (v : Value) (ps : List (List UInt8)) : Prop :=
  ∃ a c, v = .slice a ps.length c ∧ (ps = [] ∨ ∃ b o, a = some ⟨b, o, none⟩ ∧ b < w.heap.size ∧ ∀ (j : Nat) (p : List UInt8), ps[j]? = some p → ∃ pv, w.cell? ⟨b, o + j, none⟩ = some pv ∧ Bv w pv p)
theorem Rv.slice {w : World} {v : Value} {ps : List (List UInt8)} (h : Rv w v ps) : ∃ a c, v = .slice a ps.length c := by
  obtain ⟨a, c, e, _⟩ := h
  exact ⟨a, c, e⟩
theorem Rv.grow {w w' : World} {v : Value} {ps : List (List UInt8)} (h : Rv w v ps) (hg : Grow w w') : Rv w' v ps := by
  obtain ⟨a, c, hv, h⟩ := h
  refine ⟨a, c, hv, ?_⟩
  rcases h with h | ⟨b, o, ha, hb, hc⟩
  · exact .inl h
  · refine .inr ⟨b, o, ha, Nat.lt_of_lt_of_le hb hg.size, fun j p hp => ?_⟩
    obtain ⟨pv, h1, h2⟩ := hc j p hp
    exact ⟨pv, (hg.cell hb).trans h1, h2.grow hg⟩
theorem Rv.at {w : World} {v : Value} {ps : List (List UInt8)} (h : Rv w v ps) {j : Nat} {p : List UInt8} (hp : ps[j]? = some p) : ∃ b o c pa pc, v = .slice (some ⟨b, o, none⟩) ps.length c ∧ b < w.heap.size ∧ w.cell? ⟨b, o + j, none⟩ = some (.slice pa p.length pc) ∧ Bv w (.slice pa p.length pc) p := by
  obtain ⟨a, c, e, h⟩ := h
  rcases h with h | ⟨b, o, rfl, hb, hc⟩
  · rw [h] at hp; simp at hp
  · obtain ⟨pv, h1, h2⟩ := hc j p hp
    obtain ⟨pa, pc, rfl⟩ := h2.slice
    exact ⟨b, o, c, pa, pc, e, hb, h1, h2⟩
/-- A command, by its number; none is too long. -/
def cmdF (cmds : List (List UInt8)) (i : Nat) : List UInt8 := if (cmds.getD i []).length ≤ 1000 then cmds.getD i [] else []
theorem cmdF_len (cmds : List (List UInt8)) (i : Nat) : (cmdF cmds i).length ≤ 1048576 := by
  unfold cmdF
  split
  · omega
  · simp
theorem cmdF_of {cmds : List (List UInt8)} {i : Nat} {p : List UInt8} (h : cmds[i]? = some p) (hl : p.length ≤ 1000) : cmdF cmds i = p := by
  unfold cmdF
  rw [List.getD_eq_getElem?_getD, h]
  simp [hl]
section
variable {w : World} {v : Value} {cmds : List (List UInt8)}
set_option maxRecDepth 100000 in
set_option maxHeartbeats 8000000 in
theorem line_any {many : Int} (hv : Rv w v cmds) :
    Calls Try.prog 4 #[.int .i64 many, v] w fun e w' => e = .returned (.bool true) ∧ Grow w w' := by
  obtain ⟨a, c, rfl⟩ := hv.slice
  have Hv := Lib.hid hv
  have Hk := Lib.hid (known_any w)
  clear hv
  by_cases hout : many < 1 ∨ 5 < many ∨ 60 < cmds.length
  · obtain ⟨b1, hb1⟩ : ∃ b, decide (many < 1) = b := ⟨_, rfl⟩
    obtain ⟨b2, hb2⟩ : ∃ b, decide (5 < many) = b := ⟨_, rfl⟩
    obtain ⟨b3, hb3⟩ : ∃ b, decide ((60 : Int) < (cmds.length : Int)) = b := ⟨_, rfl⟩
    have hb3' : decide (60 < cmds.length) = b3 := by rw [← hb3]; by_cases h : 60 < cmds.length <;> simp [h] <;> omega
    have hbb : b1 = true ∨ (b1 = false ∧ b2 = true) ∨ (b1 = false ∧ b2 = false ∧ b3 = true) := by
      rcases hout with h | h | h
      · left; rw [← hb1]; simp [h]
      · cases b1 with
        | true => exact .inl rfl
        | false => right; left; exact ⟨rfl, by rw [← hb2]; simp [h]⟩
      · cases b1 with
        | true => exact .inl rfl
        | false => cases b2 with
          | true => exact .inr (.inl ⟨rfl, rfl⟩)
          | false => exact .inr (.inr ⟨rfl, rfl, by rw [← hb3']; simp [h]⟩)
    clear hout
    rcases hbb with rfl | ⟨rfl, rfl⟩ | ⟨rfl, rfl, rfl⟩
    all_goals
      go_enter Try.func4, Try.ntmps4
      go_wp2_with fail
      (with_reducible refine Hk.out.mono ?_)
      rintro e w1 ⟨rfl, hg1⟩
      have Hg1 := Lib.hid hg1
      clear hg1 Hk
      go_wp2
      go_ret
      exact ⟨rfl, Hg1.out⟩
  · obtain ⟨m, rfl⟩ : ∃ m : Nat, many = m := ⟨many.toNat, by omega⟩
    have hm1 : 1 ≤ m := by omega
    have hm5 : m ≤ 5 := by omega
    have hn60 : cmds.length ≤ 60 := by omega
    have e1 : decide ((m : Int) < 1) = false := by simp; omega
    have e2 : decide ((5 : Int) < (m : Int)) = false := by simp; omega
    have e3 : decide ((60 : Int) < (cmds.length : Int)) = false := by simp; omega
    have e3' : decide (60 < cmds.length) = false := by simp; omega
    have hf := cmdF_len cmds
    have H0ok : Hid ((Ln.start m).ok = true) := Lib.hid (settle_ok1 (Ln.after_ok hm1 hm5 (j := 0) (Nat.zero_le _)))
    have Hf := Lib.hid hf
    clear hout hf
    go_enter Try.func4, Try.ntmps4
    go_wp2_with fail
    (with_reducible refine Hk.out.mono ?_)
    rintro e w1 ⟨rfl, hg1⟩
    have Hb := Lib.hid (begun_any (f := cmdF cmds) (w := w1) (M := m) (by omega))
    have Hg1 := Lib.hid hg1
    have Hv1 := Lib.hid (Hv.out.grow hg1)
    clear hg1 Hk
    go_wp2_with fail
    (with_reducible refine Hb.out.mono ?_)
    rintro e w2 ⟨wb, rfl, hw2⟩
    have Hw2 := Lib.hid hw2
    clear hw2 Hb
    go_wp2_with fail
    go_loopw [6] (fun iv wr => ∃ (i : Nat) (W1 : Wd Nat), iv = .int .i64 i ∧ i ≤ m ∧ Wt (cmdF cmds) (fun x => w1.heap.size ≤ x) w1 wb m 0 (49 * i) W1 wr ∧ Ln.addAll (m - i) i W1 = Ln.start m) (fun iv _ => m - (intOf iv).toNat)
    case atStart => exact ⟨0, _, rfl, Nat.zero_le _, Hw2.out, rfl⟩
    case round =>
      clear Hw2
      obtain ⟨i, W1, rfl, hi, hw, hadd⟩ := hrel
      by_cases hlt : i < m
      · have hi1 : (i : Int) < (m : Int) := by omega
        have hs1 : Ln.addAll (m - i) i W1 = Ln.addAll (m - (i + 1)) (i + 1) ((W1.command ⟨1, i, 0, 0⟩).settle 3) := by
          rw [show m - i = (m - (i + 1)) + 1 by omega]; rfl
        have hadd2 := hs1.symm.trans hadd
        have hsok : ((W1.command ⟨1, i, 0, 0⟩).settle 3).ok = true := Ln.addAll_ok1 (by rw [hadd2]; exact H0ok.out)
        have Hadd := Lib.hid hadd2
        have Hsok := Lib.hid hsok
        have Hcm : Hid (Calls Try.prog 11 #[.pointer (some ⟨wb, 0, none⟩), .agg #[.int .i64 1, .int .i64 (i : Int), .int .i64 0, .int .i64 0]] wr fun e w' => e = .returned (.tuple #[]) ∧ Wt (cmdF cmds) (fun x => w1.heap.size ≤ x) w1 wb m 0 (49 * i + 1) (W1.command ⟨1, i, 0, 0⟩) w') := Lib.hid (hw.command (by omega) (cmdOk1 i (by omega)))
        clear hw hadd hs1 hadd2 hsok
        go_wp2_with fail
        (with_reducible refine Hcm.out.mono ?_)
        rintro e w3 ⟨rfl, hw3⟩
        have Hst : Hid (Calls Try.prog 12 #[.pointer (some ⟨wb, 0, none⟩), .int .i64 3] w3 fun e w' => e = .returned (.tuple #[]) ∧ Wt (cmdF cmds) (fun x => w1.heap.size ≤ x) w1 wb m 0 (49 * i + 1 + 48) ((W1.command ⟨1, i, 0, 0⟩).settle 3) w') := Lib.hid (hw3.settle (R := 3) (by decide) (by decide) (by omega) (by omega) Hf.out Hsok.out)
        clear hw3 Hcm
        go_wp2_with fail
        (with_reducible refine Hst.out.mono ?_)
        rintro e w4 ⟨rfl, hw4⟩
        have Hw4 := Lib.hid hw4
        clear hw4 Hst
        go_wp2
        go_roundw
        case rel => exact ⟨i + 1, _, by simp, hlt, by rw [show 49 * (i + 1) = 49 * i + 1 + 48 by omega]; exact Hw4.out, Hadd.out⟩
        case measure => simp [intOf]; omega
      · have hmi : m = i := by omega
        subst hmi
        have hW : W1 = Ln.start m := by rw [Nat.sub_self] at hadd; exact hadd
        subst hW
        have Hw0 := Lib.hid (hw.up (Nat.le_refl 0) (show 49 * m ≤ 245 by omega))
        clear hw hadd hlt hi
        obtain ⟨wu, hwu⟩ : ∃ W, W = wr := ⟨_, rfl⟩
        subst hwu
        go_wp2_with fail
        go_loopw [7] (fun jv wr => ∃ j : Nat, jv = .int .i64 j ∧ j ≤ cmds.length ∧ Wt (cmdF cmds) (fun x => w1.heap.size ≤ x) w1 wb m j (245 + 16 * j) (Ln.after (Ln.start m) j) wr ∧ (∀ k p, k < j → cmds[k]? = some p → p.length ≤ 1000)) (fun jv _ => cmds.length - (intOf jv).toNat)
        case atStart => exact ⟨0, rfl, Nat.zero_le _, Hw0.out, fun k p hk => by omega⟩
        case round =>
          clear Hw0
          obtain ⟨j, rfl, hj, hw, hsm⟩ := hrel
          have Hw := Lib.hid hw
          have Hsm := Lib.hid hsm
          have Hgw := Lib.hid (wt_grow hw)
          by_cases hlt : j < cmds.length
          · obtain ⟨p, hp⟩ : ∃ p, cmds[j]? = some p := ⟨cmds[j], by simp [hlt]⟩
            obtain ⟨b, o, cc, pa, pc, he, hb, hcell, hbv⟩ := Hv1.out.at hp
            cases he
            have hb2 := Nat.lt_of_lt_of_le hb Hgw.out.size
            have hc2 := (Hgw.out.cell hb).trans hcell
            have hj1 : (j : Int) < (cmds.length : Int) := by omega
            by_cases hlong : 1000 < p.length
            · have d1 : decide ((1000 : Int) < (p.length : Int)) = true := by simp; omega
              have d2 : decide (1000 < p.length) = true := by simp; omega
              have Hfin := Lib.hid (Hg1.out.trans Hgw.out)
              clear hw hsm hp hbv hcell hlong
              go_wp2
              go_ret
              exact ⟨rfl, Hfin.out⟩
            · have d1 : decide ((1000 : Int) < (p.length : Int)) = false := by simp; omega
              have d2 : decide (1000 < p.length) = false := by simp; omega
              have hpj : cmdF cmds j = p := cmdF_of hp (by omega)
              have hend1 := Ln.after_ok hm1 hm5 (j := j + 1) (by omega)
              have hsub1 : ((Ln.after (Ln.start m) j).submit 0 j).ok = true := by
                have h9 := settle_ok1 hend1
                have h10 : Ln.after (Ln.start m) (j + 1) = Ln.step (Ln.after (Ln.start m) j) j := rfl
                rw [h10] at h9
                unfold Ln.step at h9
                split at h9
                · exact settle_ok1 h9
                · exact h9
              have htk := (Ln.line hm1 hm5 (j := j) (by omega)).2 (by omega)
              have hsb := hw.submit (i := 0) (c := j) (by omega) (by omega) Hf.out (by omega) (xv := .slice pa p.length pc) (fun V ps _ hs => by rw [hpj]; exact bw_in hbv hs) hsub1
              rw [htk] at hsb
              have Hsb : Hid (Calls Try.prog 13 #[.pointer (some ⟨wb, 0, none⟩), .int .i64 0, .slice pa p.length pc] wr fun e w' => e = .returned (.bool true) ∧ Wt (cmdF cmds) (fun x => w1.heap.size ≤ x) w1 wb m (j + 1) (245 + 16 * j) ((Ln.after (Ln.start m) j).submit 0 j) w') := Lib.hid hsb
              have Hend1 := Lib.hid hend1
              have Hsm1 : Hid (∀ k q, k < j + 1 → cmds[k]? = some q → q.length ≤ 1000) := Lib.hid fun k q hk hq => by
                by_cases hkj : k = j
                · subst hkj; rw [hp] at hq; cases hq; omega
                · exact hsm k q (by omega) hq
              obtain ⟨r, hr⟩ : ∃ r, decide (j % 3 = 2) = r := ⟨_, rfl⟩
              have hr2 : (((j : Int) % 3) == 2) = r := by
                rw [← hr]
                by_cases h : j % 3 = 2
                · have h2 : (j : Int) % 3 = 2 := by omega
                  simp [h, h2]
                · have h2 : ¬ (j : Int) % 3 = 2 := by omega
                  simp [h, h2]
              have Hr := Lib.hid hr
              clear hw hsm hp hbv hcell hlong hpj hend1 hsub1 htk hsb hr
              go_wp2_with fail
              (with_reducible refine Hsb.out.mono ?_)
              rintro e w3 ⟨rfl, hw3⟩
              have Hw3 := Lib.hid hw3
              clear hw3 Hsb hb2 hc2 d1 d2
              cases r with
              | true =>
                have hst : Ln.after (Ln.start m) (j + 1) = ((Ln.after (Ln.start m) j).submit 0 j).settle 1 := by
                  show Ln.step (Ln.after (Ln.start m) j) j = _
                  unfold Ln.step
                  rw [if_pos (of_decide_eq_true Hr.out)]
                have Hst : Hid (Calls Try.prog 12 #[.pointer (some ⟨wb, 0, none⟩), .int .i64 1] w3 fun e w' => e = .returned (.tuple #[]) ∧ Wt (cmdF cmds) (fun x => w1.heap.size ≤ x) w1 wb m (j + 1) (245 + 16 * j + 16) (Ln.after (Ln.start m) (j + 1)) w') := Lib.hid (by
                  rw [hst]
                  exact Hw3.out.settle (R := 1) (by omega) (by decide) (by omega) (by omega) Hf.out (by rw [← hst]; exact settle_ok1 Hend1.out))
                clear hst
                go_wp2_with fail
                (with_reducible refine Hst.out.mono ?_)
                rintro e w4 ⟨rfl, hw4⟩
                have Hw4 := Lib.hid hw4
                clear hw4 Hst
                go_wp2
                go_roundw
                case rel => exact ⟨j + 1, by simp, hlt, by rw [show 245 + 16 * (j + 1) = 245 + 16 * j + 16 by omega]; exact Hw4.out, Hsm1.out⟩
                case measure => simp [intOf]; omega
              | false =>
                have hst : Ln.after (Ln.start m) (j + 1) = (Ln.after (Ln.start m) j).submit 0 j := by
                  show Ln.step (Ln.after (Ln.start m) j) j = _
                  unfold Ln.step
                  rw [if_neg (of_decide_eq_false Hr.out)]
                have Hw4 : Hid (Wt (cmdF cmds) (fun x => w1.heap.size ≤ x) w1 wb m (j + 1) (245 + 16 * (j + 1)) (Ln.after (Ln.start m) (j + 1)) w3) := Lib.hid (by rw [hst]; exact Hw3.out.up (Nat.le_refl _) (by omega))
                clear hst
                go_wp2
                go_roundw
                case rel => exact ⟨j + 1, by simp, hlt, Hw4.out, Hsm1.out⟩
                case measure => simp [intOf]; omega
          · have hjn : j = cmds.length := by omega
            have hend := Ln.after_ok hm1 hm5 (j := j) (by omega)
            have Hst : Hid (Calls Try.prog 12 #[.pointer (some ⟨wb, 0, none⟩), .int .i64 4] wr fun e w' => e = .returned (.tuple #[]) ∧ Wt (cmdF cmds) (fun x => w1.heap.size ≤ x) w1 wb m j (245 + 16 * j + 64) ((Ln.after (Ln.start m) j).settle 4) w') := Lib.hid (hw.settle (R := 4) (by omega) (by decide) (by omega) (by omega) Hf.out hend)
            have hline := (Ln.line hm1 hm5 (j := j) (by omega)).1
            have Hline := Lib.hid hline
            have Hend := Lib.hid hend
            have Hjn := Lib.hid hjn
            clear hw hsm hline hend hlt hj Hw Hgw
            go_wp2_with fail
            (with_reducible refine Hst.out.mono ?_)
            rintro e w3 ⟨rfl, hw3⟩
            clear hjn Hst
            obtain ⟨WE, hWE⟩ : ∃ X, (Ln.after (Ln.start m) j).settle 4 = X := ⟨_, rfl⟩
            rw [hWE] at hw3 Hline Hend
            clear hWE
            have hE : WE.ok = true ∧ WE.row = List.range j ∧ ∀ i, i < m → (WE.box i).cmds.length = j ∧ (WE.box i).first = j ∧ wholeB (WE.nd i) (WE.box i) = true ∧ headB (WE.nd i) (WE.box i) = decide (i = 0) := by
              have h := Hline.out
              unfold Ln.endB at h
              simp only [Bool.and_eq_true, decide_eq_true_eq, List.all_eq_true, List.mem_range, beq_iff_eq] at h
              refine ⟨h.1.1, h.1.2, fun i hi => ?_⟩
              have := h.2 i (by rw [hw3.nds]; exact hi)
              exact ⟨this.1.1.1, this.1.1.2, this.1.2, this.2⟩
            have HE := Lib.hid hE
            have hwrong := hw3.wrong
            rw [hE.1] at hwrong
            obtain ⟨lw, _, _, _, ⟨ra, rc, c5⟩, _⟩ := hw3.read
            rw [hE.2.1, List.length_range, Hjn.out] at c5
            have Hw3 := Lib.hid hw3
            clear hw3 hE Hline Hend
            have ee : ((cmds.length : Int) != (cmds.length : Int)) = false := by simp
            go_wp2_with fail
            clear c5 hwrong lw
            obtain ⟨wz, hwz⟩ : ∃ W, W = w3 := ⟨_, rfl⟩
            subst hwz
            go_loopw [8] (fun iv wr => ∃ i : Nat, iv = .int .i64 i ∧ i ≤ cmds.length ∧ Grow wz wr) (fun iv _ => cmds.length - (intOf iv).toNat)
            case atStart => exact ⟨0, rfl, Nat.zero_le _, Grow.refl _⟩
            case round =>
              obtain ⟨i, rfl, hi, hg⟩ := hrel
              have Hgz := Lib.hid hg
              by_cases hlt : i < cmds.length
              · obtain ⟨p, hp⟩ : ∃ p, cmds[i]? = some p := ⟨cmds[i], by simp [hlt]⟩
                have hgd := hg.trans (Grow.drew wr)
                have hwd := Hw3.out.grow hgd
                have hrow : WE.row[i]? = some i := by rw [HE.out.2.1, Hjn.out]; simp [hlt]
                obtain ⟨g5, cap5, ua, uc, z5, lg5, z6, hbv⟩ := hwd.rowAt hrow
                rw [HE.out.2.1, List.length_range, Hjn.out] at z5
                rw [cmdF_of hp (Hsm.out i p (by have := Hjn.out; omega) hp)] at z6 hbv
                have lw := hwd.read.1
                have hgv := (wt_grow hwd)
                obtain ⟨b, o, cc, pa, pc, he, hb, hcell, hbv2⟩ := (Hv1.out.grow hgv).at hp
                cases he
                have hc1 := conv_text hbv
                have hc2 := conv_text hbv2
                have hi1 : (i : Int) < (cmds.length : Int) := by omega
                have Hgd := Lib.hid hgd
                clear hp hwd hrow hbv hbv2 hgv hg hgd
                go_wp2_with fail
                refine wp_region_row (fun W => W = wr.drew) [] (by kernel_rfl) (fun c a d v w h => by cases d <;> exact h) rfl ?_
                obtain ⟨wd, hwd⟩ : ∃ W, W = wr.drew := ⟨_, rfl⟩
                simp only [← hwd] at z5 lg5 z6 lw hb hcell hc1 hc2 Hgd ⊢
                clear hwd
                simp only [inRow]
                repeat ((first | (apply wpPi_quiet; rfl; rintro W rfl; go_simp; with_reducible rfl) | (apply wpPi_off; rfl)); simp only [putA, List.set])
                refine wpPi_nil ?_
                go_wp2
                go_roundw
                case rel => exact ⟨i + 1, by simp, hlt, Hgd.out⟩
                case measure => simp [intOf]; omega
              · have hin : i = cmds.length := by omega
                subst hin
                clear hg hlt hi
                go_wp2_with fail
                obtain ⟨wy, hwy⟩ : ∃ W, W = wr := ⟨_, rfl⟩
                subst hwy
                go_loopw [9] (fun iv wr => ∃ i : Nat, iv = .int .i64 i ∧ i ≤ m ∧ Grow wz wr) (fun iv _ => m - (intOf iv).toNat)
                case atStart => exact ⟨0, rfl, Nat.zero_le _, Hgz.out⟩
                case round =>
                  clear Hgz
                  obtain ⟨i, rfl, hi, hg⟩ := hrel
                  have Hg := Lib.hid hg
                  by_cases hlt : i < m
                  · obtain ⟨g, gc, nb, gx, gxc, bb, ba, bc, hl⟩ := (Hw3.out.grow hg).look (i := i) hlt
                    obtain ⟨q1, q2, q3, q4⟩ := HE.out.2.2 i hlt
                    rw [Hjn.out] at q1 q2
                    have hi1 : (i : Int) < (m : Int) := by omega
                    have hwi : IntKind.i64.wrap ((cmds.length : Int) + 1) = (cmds.length : Int) + 1 := IntWalk.i64_in _ (by omega)
                    have hwu : IntKind.u64.wrap ((cmds.length : Int) + 1) = (cmds.length : Int) + 1 := by simp [IntKind.wrap, IntKind.bits, IntKind.signed]; omega
                    have Hfi : Hid (Calls Try.prog 14 #[.pointer (some ⟨bb, 0, none⟩)] wr fun e w' => e = .returned (.int .u64 ((cmds.length : Int) + 1)) ∧ w' = wr) := Lib.hid (by have := hl.first; rw [q2] at this; exact this)
                    have Hwh := Lib.hid hl.whole
                    rw [q3] at Hwh
                    obtain ⟨r0, hr0⟩ : ∃ r, decide (i = 0) = r := ⟨_, rfl⟩
                    have hr1 : ((i : Int) == 0) = r0 := by rw [← hr0]; by_cases h : i = 0 <;> simp [h]
                    rw [hr0] at q4
                    have HL := Lib.hid hl
                    have Hq4 := Lib.hid q4
                    have k0 := hl.c0
                    have k1 := hl.c1
                    have k2 := hl.cn
                    have k3 := hl.cx
                    have k4 := hl.cb
                    rw [q1] at k4
                    have l0 := hl.lw
                    have l1 := hl.lg
                    have l2 := hl.lx
                    have l3 := hl.lb
                    clear hl q1 q2 q3 q4 hr0 hg
                    go_wp2_with fail
                    (with_reducible refine Hfi.out.mono ?_)
                    rintro e wf ⟨rfl, hwf⟩
                    have hwf2 := hwf.symm
                    subst hwf2
                    clear hwf Hfi
                    go_wp2_with fail
                    (with_reducible refine Hwh.out.mono ?_)
                    rintro e wg ⟨rfl, hgg⟩
                    have hl := HL.out.grow hgg
                    have Hhd := Lib.hid hl.head
                    rw [Hq4.out] at Hhd
                    have HGG := Lib.hid (Hg.out.trans hgg)
                    clear k0 k1 k2 k3 k4 l0 l1 l2 l3 hgg Hwh
                    have k0 := hl.c0
                    have k2 := hl.cn
                    have l0 := hl.lw
                    have l1 := hl.lg
                    clear hl
                    go_wp2_with fail
                    (with_reducible refine Hhd.out.mono ?_)
                    rintro e wh ⟨rfl, hgh⟩
                    have HGH := Lib.hid (HGG.out.trans hgh)
                    clear hgh Hhd k0 k2 l0 l1
                    cases r0
                    all_goals
                      go_wp2
                      go_roundw
                      case rel => exact ⟨i + 1, by simp, hlt, HGH.out⟩
                      case measure => simp [intOf]; omega
                  · have him : m = i := by omega
                    subst him
                    have Hfin := Lib.hid ((Hg1.out.trans (wt_grow Hw3.out)).trans hg)
                    clear hg hlt hi
                    go_wp2
                    go_ret
                    exact ⟨rfl, Hfin.out⟩
end
end Go.Proofs.Ytfchjoejdijjeaa

/- Rows of bytes that came in, opened. -/
namespace Go.Proofs.Ytfchjoejdijjeaa
open Go.ChangeShapes Go.WideShapes Go.ChangeAt Go.RowKit Go.Gl Go.Wal Go.Ch

section
variable {H : Type} {enc : TypeId × Value → H} {w : World} {base : Nat} {spare : Nat → Bool} {held : Bool}

theorem spot_of_cell {w : World} {a : Addr} {v : Value} (h : w.cell? a = some v) : a.spot = none := by
  unfold World.cell? at h
  split at h
  · cases hs : a.spot with
    | none => rfl
    | some s => simp [hs] at h
  · cases h

theorem opened1 {a : Addr} {cs : List Value} (h : w.cells? base a 1 = some cs) : ∃ v0, cs = [v0] ∧ w.cell? a = some v0 := by
  unfold World.cells? at h
  split at h
  · have e : List.range 1 = [0] := rfl
    rw [e] at h
    simp only [List.mapM_cons, List.mapM_nil, Option.bind_eq_bind, Option.bind_eq_some_iff, Option.pure_def, Option.some.injEq] at h
    obtain ⟨v0, h0, _, rfl, rfl⟩ := h
    exact ⟨v0, rfl, by simpa [Addr.add] using h0⟩
  · cases h

theorem open_b {v : Value} {fuel : Nat} {x : DataW H × List MemPlace} (h : DataW.trod enc Try.prog w base spare held fuel 28 [v] = some x) : ∃ l : List UInt8, Bv w v l := by
  rcases open_ints Try.underlying28 Try.underlying5 (by kernel_rfl) h with ⟨hcs, _⟩ | ⟨a, l, c, zs, hcs, _, hl, hm, hz, _, hcell, hwz⟩
  · simp only [List.cons.injEq, and_true] at hcs
    exact ⟨[], none, 0, by rw [hcs]; rfl, Nat.le_refl _, Nat.zero_le _, fun _ => rfl, .inl rfl⟩
  · simp only [List.cons.injEq, and_true] at hcs
    subst hcs
    have hzl : l ≤ zs.length := by rw [hz]; split <;> omega
    by_cases hl0 : l = 0
    · subst hl0
      exact ⟨[], some a, c, rfl, hl, hm, fun h => (by cases h), .inl rfl⟩
    · have h0 := hcell 0 (by omega)
      have hsp := spot_of_cell h0
      obtain ⟨b, o, sp⟩ := a
      simp only [Addr.add, if_true] at hsp
      subst hsp
      have hlt := World.block_lt_of_cell? w _ h0
      rw [Addr.add_lit] at hlt
      have e : ((zs.take l).map fun n => UInt8.ofNat n.toNat).length = l := by simp; omega
      have hcs : ∀ (j : Nat) (k : UInt8), ((zs.take l).map fun n => UInt8.ofNat n.toNat)[j]? = some k → w.cell? ⟨b, o + j, none⟩ = some (.int .u8 k.toNat) := fun j k hk => by
        simp only [List.getElem?_map, Option.map_eq_some_iff] at hk
        obtain ⟨n, hn, rfl⟩ := hk
        rw [List.getElem?_take] at hn
        split at hn
        · have h1 := hcell j (by omega)
          rw [Addr.add_lit] at h1
          rw [h1]
          have h2 : zs.getD j 0 = n := by simp [List.getD, hn]
          rw [h2]
          have h3 := hwz n (List.mem_of_getElem? hn)
          simp only [Lit.wf, Bool.and_eq_true, decide_eq_true_eq] at h3
          have h4 : (0 : Int) ≤ n ∧ n ≤ 255 := h3
          congr 2
          rw [UInt8.toNat_ofNat_of_lt' (by simp [UInt8.size]; omega)]
          omega
        · cases hn
      exact ⟨(zs.take l).map fun n => UInt8.ofNat n.toNat, some ⟨b, o, none⟩, c, by rw [e], by rw [e]; exact hl, hm, fun h => (by cases h), .inr ⟨b, o, rfl, hlt, hcs⟩⟩

theorem open_i {v : Value} {fuel : Nat} {x : DataW H × List MemPlace} (h : DataW.trod enc Try.prog w base spare held fuel 3 [v] = some x) : ∃ n : Int, v = .int .i64 n := by
  obtain ⟨n0, e0, _⟩ := DataW.trod_int Try.underlying3 h
  simp only [List.cons.injEq, and_true] at e0
  exact ⟨n0, e0⟩

theorem open_rows {v : Value} {fuel : Nat} {x : DataW H × List MemPlace} (h : DataW.trod enc Try.prog w base spare held fuel 32 [v] = some x) : ∃ ps, Rv w v ps := by
  have k1 : Try.prog.cellsOf 28 = 1 := by kernel_rfl
  rcases Go.Deep.open_slice Try.underlying32 h with ⟨hcs, _⟩ | ⟨a, len, cap, m, n, D, Pl, hcs, _, hl, hm, hmm, _, hel⟩
  · simp only [List.cons.injEq, and_true] at hcs
    subst hcs
    exact ⟨[], none, 0, rfl, .inl rfl⟩
  · simp only [List.cons.injEq, and_true] at hcs
    subst hcs
    rw [k1] at hel
    have hlm : len ≤ m := by rw [hmm]; split <;> omega
    by_cases hl0 : len = 0
    · subst hl0
      exact ⟨[], some a, cap, rfl, .inl rfl⟩
    · obtain ⟨cs0, hc0, _⟩ := hel 0 (by omega)
      obtain ⟨b, o, sp⟩ := a
      obtain ⟨v0, _, hz0⟩ := opened1 hc0
      have hz : w.cell? ⟨b, o, sp⟩ = some v0 := by simpa [Addr.add] using hz0
      have hsp := spot_of_cell hz
      simp only at hsp
      subst hsp
      have hlt := World.block_lt_of_cell? w _ hz
      have hall : ∀ i, i < len → ∃ p : List UInt8, ∃ pv, w.cell? ⟨b, o + i, none⟩ = some pv ∧ Bv w pv p := fun i hi => by
        obtain ⟨cs', h1, h2⟩ := hel i (by omega)
        rw [Addr.add_lit, Nat.mul_one] at h1
        obtain ⟨pv, rfl, h3⟩ := opened1 h1
        obtain ⟨p, hp⟩ := open_b h2
        exact ⟨p, pv, h3, hp⟩
      obtain ⟨f, hf⟩ := Go.Deep.choose_lt hall
      refine ⟨(List.range len).map f, some ⟨b, o, none⟩, cap, by simp, .inr ⟨b, o, rfl, hlt, fun i y hy => ?_⟩⟩
      simp only [List.getElem?_map, Option.map_eq_some_iff] at hy
      obtain ⟨j, hj, rfl⟩ := hy
      have hil : i < len := by have := (List.getElem?_eq_some_iff.1 hj).1; simpa using this
      rw [List.getElem?_range hil] at hj
      cases hj
      exact hf i hil
end
end Go.Proofs.Ytfchjoejdijjeaa
