/- Merged out of GH: helpers. -/
import Derived.Test.YtfchjoejdijjeaaCD2
import Derived.Test.YtfchjoejdijjeaaCR2
set_option linter.unusedSimpArgs false
set_option linter.unusedVariables false
/- ChainAgrees, walked. -/
namespace Go.Proofs.Ytfchjoejdijjeaa
open Go.RowKit Go.Gl Go.Wal Go.Ch Go.Shelf
/-- The bytes of a move, by its number. -/
def mvF (ms : List Turn) (i : Nat) : List UInt8 := (ms[i]?.map Turn.bs).getD []
theorem bulkM_one {ms : List Turn} {i : Nat} {m : Turn} (h : ms[i]? = some m) : m.bs.length ≤ bulkM ms := by
  have h1 := bulk_take h
  have h2 := bulk_le ms (i + 1)
  omega
theorem mvF_len {ms : List Turn} (hb : bulkM ms ≤ 1048576) (c : Nat) : (mvF ms c).length ≤ 1048576 := by
  unfold mvF
  cases h : ms[c]? with
  | none => simp
  | some m => have := bulkM_one h; simp; omega
theorem mvF_of {ms : List Turn} {i : Nat} {m : Turn} (h : ms[i]? = some m) : mvF ms i = m.bs := by unfold mvF; rw [h]; rfl
section
variable {w w1 wr : World} {wb P : Nat}
/-- What the loop keeps. -/
structure AgI (f : Nat → List UInt8) (w1 : World) (wb P j : Nat) (W : Wd Nat) (wr : World) : Prop where
  few : W.Few P j
  at_ : Wt f (F0 w1) w1 wb P j j W wr
set_option maxRecDepth 100000 in
set_option maxHeartbeats 4000000 in
theorem agrees_any {many : Int} {v : Value} {ms : List Turn} (hv : MvR w v ms) (hb : bulkM ms ≤ 1048576) (hl : ms.length ≤ 1048576) :
    Calls Try.prog 3 #[.int .i64 many, v] w fun e w' => e = .returned (.bool true) ∧ Grow w w' := by
  obtain ⟨a, c, rfl⟩ := hv.slice
  have Hv := Lib.hid hv
  have Hb := Lib.hid hb
  have Hl := Lib.hid hl
  have Hk := Lib.hid (known_any w)
  clear hv hb hl
  have hcase : many < 1 ∨ (1 ≤ many ∧ 6 < many) ∨ (1 ≤ many ∧ many ≤ 6) := by omega
  rcases hcase with hc | ⟨hc, hc2⟩ | ⟨hc, hc2⟩
  · have d1 : decide (many < 1) = true := by simp; omega
    clear hc
    go_enter Try.func3, Try.ntmps3
    go_wp2_with fail
    (with_reducible refine Hk.out.mono ?_)
    rintro e w1 ⟨rfl, hg1⟩
    have Hg1 := Lib.hid hg1
    clear hg1 Hk
    go_wp2
    go_ret
    exact ⟨rfl, Hg1.out⟩
  · have d1 : decide (many < 1) = false := by simp; omega
    have d2 : decide (6 < many) = true := by simp; omega
    clear hc hc2
    go_enter Try.func3, Try.ntmps3
    go_wp2_with fail
    (with_reducible refine Hk.out.mono ?_)
    rintro e w1 ⟨rfl, hg1⟩
    have Hg1 := Lib.hid hg1
    clear hg1 Hk
    go_wp2
    go_ret
    exact ⟨rfl, Hg1.out⟩
  · have d1 : decide (many < 1) = false := by simp; omega
    have d2 : decide (6 < many) = false := by simp; omega
    obtain ⟨M, rfl⟩ : ∃ M : Nat, many = (M : Int) := ⟨many.toNat, by omega⟩
    have hM0 : 0 < M := by omega
    have hM6 : M ≤ 6 := by omega
    have HM0 := Lib.hid hM0
    have HM6 := Lib.hid hM6
    clear hc hc2 hM0 hM6
    go_enter Try.func3, Try.ntmps3
    go_wp2_with fail
    (with_reducible refine Hk.out.mono ?_)
    rintro e w1 ⟨rfl, hg1⟩
    have Hf := Lib.hid (few_any (Hv.out.grow hg1) Hb.out Hl.out)
    have Hv1 := Lib.hid (Hv.out.grow hg1)
    have Hg1 := Lib.hid hg1
    clear hg1 Hk Hv
    go_wp2_with fail
    (with_reducible refine Hf.out.mono ?_)
    rintro e w2 ⟨rfl, hw2⟩
    have hw3 := hw2.symm
    subst hw3
    clear hw2 Hf
    obtain ⟨q, hq⟩ : ∃ q, fewM ms = q := ⟨_, rfl⟩
    rw [hq]
    have Hq := Lib.hid hq
    clear hq
    cases q with
    | false =>
      go_wp2
      go_ret
      exact ⟨rfl, Hg1.out⟩
    | true =>
      have hms : ms.length ≤ 1500 := by
        have h := Hq.out
        unfold fewM at h
        simp only [Bool.and_eq_true, decide_eq_true_eq] at h
        exact h.1
      have Hms := Lib.hid hms
      have Hbg : Hid (Calls Try.prog 8 #[.int .i64 (M : Int)] w1 fun e w' => ∃ wb, e = .returned (.pointer (some ⟨wb, 0, none⟩)) ∧ Wt (mvF ms) (F0 w1) w1 wb M 0 0 (Wd.fresh0 M : Wd Nat) w') := Lib.hid (begun_any (M := M) (by have := HM6.out; omega))
      clear hms Hq d1 d2
      go_wp2_with fail
      (with_reducible refine Hbg.out.mono ?_)
      rintro e w2 ⟨wb, rfl, hw2⟩
      have H0 := Lib.hid (show AgI (mvF ms) w1 wb M 0 (Wd.fresh0 M) w2 from ⟨Agr.few_zero M, hw2⟩)
      clear hw2 Hbg
      go_wp2_with fail
      go_loopw [6] (fun iv wr => ∃ (j : Nat) (W1 : Wd Nat), iv = .int .i64 j ∧ j ≤ ms.length ∧ AgI (mvF ms) w1 wb M j W1 wr) (fun iv _ => ms.length - (intOf iv).toNat)
      case atStart => exact ⟨0, _, rfl, Nat.zero_le _, H0.out⟩
      case round =>
        clear H0
        obtain ⟨j, W1, rfl, hj, hI⟩ := hrel
        by_cases hlt : j < ms.length
        · obtain ⟨m, hm⟩ : ∃ m, ms[j]? = some m := ⟨ms[j], by simp [hlt]⟩
          have hbase := hI.at_.base
          obtain ⟨b, o, c', e, hbl, u, c0, c1, c2, c3, hu⟩ := (Hv1.out.grow hbase).get hm
          cases e
          obtain ⟨b', o', c'', e', hbl', u', k0, k1, k2, k3, hu'⟩ := Hv1.out.get hm
          cases e'
          obtain rfl : u = u' := by
            rw [hbase.cell hbl', k3] at c3
            exact (Option.some.inj c3).symm
          obtain ⟨ua, uc, rfl⟩ := hu'.slice
          have hfm : mvF ms j = m.bs := mvF_of hm
          have hP := HM6.out
          have hmj := Hms.out
          have hF' : W1.Few M (j + 1) → True := fun _ => trivial
          have hfs := Agr.Few.step hI.few HM0.out m j
          have hhl := Agr.Inv.holds hfs.inv
          have hok : (W1.stepM m j).ok = true := by
            have := hhl
            unfold Wd.holds at this
            simp only [Bool.and_eq_true] at this
            exact this.1
          have Hc : Hid (Calls Try.prog 9 #[.pointer (some ⟨wb, 0, none⟩), .agg #[.int .i64 m.op, .int .i64 m.node, .int .i64 m.n, .slice ua m.bs.length uc]] wr (StPost (mvF ms) w1 wb M (j + 1) (j + 1) (W1.stepM m j))) := Lib.hid (by
            have h := wstep_any (c := j) (ua := ua) (uc := uc) hI.at_ HM0.out (by omega) (by omega) (by omega) (mvF_len Hb.out) (m := m) (by rw [hfm]; exact hu') (by have := hI.few.bag; omega) (fun n hn => by have := hI.few.bir n hn; omega) hok
            rw [hfm] at h
            exact h)
          have Hfs := Lib.hid hfs
          have Hhl := Lib.hid hhl
          have hj1 : (j : Int) < (ms.length : Int) := by omega
          have hwj : IntKind.i64.wrap ((j : Int) + 1) = (j : Int) + 1 := IntWalk.i64_in _ (by omega)
          have Hwj := Lib.hid hmj
          clear hI hm hu hu' hfm hP hmj hF' hfs hhl hok hbase k0 k1 k2 k3 hbl'
          go_wp2_with fail
          (with_reducible refine Hc.out.mono ?_)
          rintro e w3 ⟨rfl, h3⟩
          have Hh : Hid (Calls Try.prog 10 #[.pointer (some ⟨wb, 0, none⟩)] w3 fun e w' => e = .returned (.bool true) ∧ Grow w3 w') := Lib.hid (wholds_any h3 (by have := HM6.out; omega) (by have := Hwj.out; omega) (by have := Hwj.out; omega) Hhl.out)
          have H3 := Lib.hid h3
          clear h3 Hc c0 c1 c2 c3 hbl
          go_wp2_with fail
          (with_reducible refine Hh.out.mono ?_)
          rintro e w4 ⟨rfl, hg4⟩
          have H4 := Lib.hid (show AgI (mvF ms) w1 wb M (j + 1) (W1.stepM m j) w4 from ⟨Hfs.out, H3.out.grow hg4⟩)
          clear hg4 Hh H3
          go_wp2
          go_roundw
          case rel => exact ⟨j + 1, _, by simp, hlt, H4.out⟩
          case measure => simp [intOf]; omega
        · obtain rfl : j = ms.length := by omega
          have hend := Lib.hid (Hg1.out.trans hI.at_.base)
          clear hI hlt hj
          go_wp2
          go_ret
          exact ⟨rfl, hend.out⟩
end
end Go.Proofs.Ytfchjoejdijjeaa
