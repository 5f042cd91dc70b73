/- Merged out of FY: helpers. -/
import Derived.Test.YtfchjoejdijjeaaCV2
import Derived.Test.YtfchjoejdijjeaaCU2
set_option linter.unusedSimpArgs false
set_option linter.unusedVariables false
/- ChainFenced returns true. -/
namespace Go.Proofs.Ytfchjoejdijjeaa
open Go.RowKit Go.Gl Go.Wal Go.Ch Go.Shelf
def firstB : List UInt8 := [102, 105, 114, 115, 116]
theorem conv_first (W : World) : (convert 28 28 (.slice (some ⟨W.heap.size, 0, none⟩) 5 5)).run Try.prog (litW W #[.int .u8 102, .int .u8 105, .int .u8 114, .int .u8 115, .int .u8 116]) = .ok (.slice (some ⟨W.heap.size, 0, none⟩) 5 5) (litF W #[.int .u8 102, .int .u8 105, .int .u8 114, .int .u8 115, .int .u8 116] 5) := by
  have hsh : (litW W #[.int .u8 102, .int .u8 105, .int .u8 114, .int .u8 115, .int .u8 116]).shape? W.heap.size = some (5, 5) := by
    have hB := heap_alloc_new W (.cells #[.int .u8 102, .int .u8 105, .int .u8 114, .int .u8 115, .int .u8 116] 5)
    unfold World.shape?
    rw [hB]
    rfl
  simp [convert, go_sem, markStringish, hsh]
/-- Command 0 is "first"; the others are the given ones. -/
def fenF (cmds : List (List UInt8)) : Nat → List UInt8
  | 0 => firstB
  | i + 1 => cmds.getD i []
theorem fenF_len {cmds : List (List UInt8)} (hb : ∀ p ∈ cmds, p.length ≤ 1048576) : ∀ c, (fenF cmds c).length ≤ 1048576
  | 0 => Nat.le_of_ble_eq_true rfl
  | i + 1 => by
    show (cmds.getD i []).length ≤ _
    rw [List.getD_eq_getElem?_getD]
    cases h : cmds[i]? with
    | none => simp
    | some p => exact hb p (List.mem_of_getElem? h)
theorem fenF_of {cmds : List (List UInt8)} {i : Nat} {p : List UInt8} (h : cmds[i]? = some p) : fenF cmds (i + 1) = p := by
  show cmds.getD i [] = p
  rw [List.getD_eq_getElem?_getD, h]
  rfl
theorem addAll_zero (i : Nat) (W : Wd Nat) : Ln.addAll 0 i W = W := rfl
theorem conf_cfgs (who last : Nat) (w : Wd Nat) : ∀ i, (Fc.conf who last w i).cfgs = w.cfgs
  | 0 => rfl
  | i + 1 => by
    by_cases h : i = who
    · rw [← h, Fc.conf_at]; exact conf_cfgs _ _ _ i
    · rw [Fc.conf_ne h]; exact conf_cfgs _ _ _ i
theorem flush_step {n : Nat} {W : Wd Nat} (h1 : n < 3000) (h2 : 0 < W.bag.length) : Wd.flush (3000 - n) W = Wd.flush (3000 - (n + 1)) (W.deliver 0) := by
  rw [show 3000 - n = (3000 - (n + 1)) + 1 by omega, Wd.flush]
  cases hb : W.bag with
  | nil => rw [hb] at h2; simp at h2
  | cons x l => rfl
theorem flush_end {n : Nat} {W : Wd Nat} (h : ¬ (n < 3000 ∧ 0 < W.bag.length)) : Wd.flush (3000 - n) W = W := by
  by_cases hn3 : n < 3000
  · have hb0 : W.bag = [] := List.eq_nil_of_length_eq_zero (by omega)
    rw [show 3000 - n = (3000 - (n + 1)) + 1 by omega, Wd.flush, hb0]
  · rw [show 3000 - n = 0 by omega]; rfl
theorem cmdOk2 (i : Nat) (hi : i < 16) : CmdOk ⟨2, i, 0, 0⟩ := ⟨Nat.le_of_ble_eq_true rfl, Nat.le_of_ble_eq_true rfl, hi, Nat.zero_le _, Nat.zero_le _⟩
section
variable {w : World} {v : Value} {cmds : List (List UInt8)}
set_option maxRecDepth 1000000 in
set_option maxHeartbeats 16000000 in
theorem fenced_any {who : Int} (hv : Rv w v cmds) (hb : ∀ p ∈ cmds, p.length ≤ 1048576) :
    Calls Try.prog 5 #[v, .int .i64 who] w fun e w' => e = .returned (.bool true) ∧ Grow w w' := by
  obtain ⟨a, c, rfl⟩ := hv.slice
  have Hv := Lib.hid hv
  have Hk := Lib.hid (known_any w)
  clear hv
  by_cases hlong : 20 < cmds.length
  · have d1 : decide ((20 : Int) < (cmds.length : Int)) = true := by simp; omega
    have d2 : decide (20 < cmds.length) = true := by simp; omega
    clear hlong
    go_enter Try.func5, Try.ntmps5
    go_wp2_with fail
    (with_reducible refine Hk.out.mono ?_)
    rintro e w1 ⟨rfl, hg1⟩
    have Hg1 := Lib.hid hg1
    clear hg1 Hk
    go_wp2
    go_ret
    exact ⟨rfl, Hg1.out⟩
  · have d1 : decide ((20 : Int) < (cmds.length : Int)) = false := by simp; omega
    have d2 : decide (20 < cmds.length) = false := by simp; omega
    have hn20 : cmds.length ≤ 20 := by omega
    have hf := fenF_len hb
    have Hf := Lib.hid hf
    obtain ⟨f, hff⟩ : ∃ f, fenF cmds = f := ⟨_, rfl⟩
    rw [hff] at Hf
    have Hff := Lib.hid hff
    clear hlong hf hff hb
    go_enter Try.func5, Try.ntmps5
    go_wp2_with fail
    (with_reducible refine Hk.out.mono ?_)
    rintro e w1 ⟨rfl, hg1⟩
    have Hb : Hid (Calls Try.prog 8 #[.int .i64 3] w1 fun e w' => ∃ wb, e = .returned (.pointer (some ⟨wb, 0, none⟩)) ∧ Wt f (fun x => w1.heap.size ≤ x) w1 wb 3 0 0 (Wd.fresh0 3) w') := Lib.hid (begun_any (M := 3) (by decide))
    have Hg1 := Lib.hid hg1
    have Hv1 := Lib.hid (Hv.out.grow hg1)
    clear hg1 Hk
    go_wp2_with fail
    (with_reducible refine Hb.out.mono ?_)
    rintro e w2 ⟨wb, rfl, hw2⟩
    have Hw2 := Lib.hid hw2
    clear hw2 Hb
    obtain ⟨F0, hF0⟩ : ∃ F : Nat → Prop, (fun x => w1.heap.size ≤ x) = F := ⟨_, rfl⟩
    rw [hF0] at Hw2
    have HF0 := Lib.hid hF0
    clear hF0
    go_wp2_with fail
    obtain ⟨m3, hm3⟩ : ∃ m : Nat, m = 3 := ⟨_, rfl⟩
    have Hm3 := Lib.hid hm3
    have Hst0 : Hid (Ln.addAll (m3 - 0) 0 (Wd.fresh0 3) = Ln.start m3) := Lib.hid (by rw [Nat.sub_zero]; unfold Ln.start; rw [hm3])
    have Hokm : Hid ((Ln.start m3).ok = true) := Lib.hid (by rw [hm3]; exact Fc.okS)
    clear hm3
    go_loopw [6] (fun iv wr => ∃ (i : Nat) (W1 : Wd Nat), iv = .int .i64 i ∧ i ≤ 3 ∧ Wt f F0 w1 wb 3 0 (49 * i) W1 wr ∧ Ln.addAll (m3 - i) i W1 = Ln.start m3) (fun iv _ => 3 - (intOf iv).toNat)
    case atStart => exact ⟨0, _, rfl, Nat.zero_le _, Hw2.out, Hst0.out⟩
    case round =>
      clear Hw2
      obtain ⟨i, W1, rfl, hi, hw, hadd⟩ := hrel
      by_cases hlt : i < 3
      · have hi1 : decide ((i : Int) < 3) = true := by simp; omega
        have hi2 : decide (i < 3) = true := by simp; omega
        have hs1 : Ln.addAll (m3 - i) i W1 = Ln.addAll (m3 - (i + 1)) (i + 1) ((W1.command ⟨1, i, 0, 0⟩).settle 3) := by
          rw [show m3 - i = (m3 - (i + 1)) + 1 by have := Hm3.out; omega]; rfl
        have hadd2 := hs1.symm.trans hadd
        have hsok : ((W1.command ⟨1, i, 0, 0⟩).settle 3).ok = true := Ln.addAll_ok1 (by rw [hadd2]; exact Hokm.out)
        have Hadd := Lib.hid hadd2
        have Hsok := Lib.hid hsok
        have Hcm : Hid (Calls Try.prog 11 #[.pointer (some ⟨wb, 0, none⟩), .agg #[.int .i64 1, .int .i64 (i : Int), .int .i64 0, .int .i64 0]] wr fun e w' => e = .returned (.tuple #[]) ∧ Wt f F0 w1 wb 3 0 (49 * i + 1) (W1.command ⟨1, i, 0, 0⟩) w') := Lib.hid (hw.command (by omega) (cmdOk1 i (by omega)))
        clear hw hadd hs1 hadd2 hsok
        go_wp2_with fail
        (with_reducible refine Hcm.out.mono ?_)
        rintro e w3 ⟨rfl, hw3⟩
        have Hst : Hid (Calls Try.prog 12 #[.pointer (some ⟨wb, 0, none⟩), .int .i64 3] w3 fun e w' => e = .returned (.tuple #[]) ∧ Wt f F0 w1 wb 3 0 (49 * i + 1 + 48) ((W1.command ⟨1, i, 0, 0⟩).settle 3) w') := Lib.hid (hw3.settle (R := 3) (by decide) (by decide) (by omega) (by omega) Hf.out Hsok.out)
        clear hw3 Hcm
        go_wp2_with fail
        (with_reducible refine Hst.out.mono ?_)
        rintro e w4 ⟨rfl, hw4⟩
        have Hw4 := Lib.hid hw4
        clear hw4 Hst
        go_wp2
        go_roundw
        case rel => exact ⟨i + 1, _, by simp, hlt, by rw [show 49 * (i + 1) = 49 * i + 1 + 48 by omega]; exact Hw4.out, Hadd.out⟩
        case measure => simp [intOf]; omega
      · have hmi : i = 3 := by omega
        subst hmi
        have hz : m3 - 3 = 0 := by have := Hm3.out; omega
        rw [hz, addAll_zero] at hadd
        subst hadd
        obtain ⟨S0, hS0⟩ : ∃ S, S = Ln.start m3 := ⟨_, rfl⟩
        rw [← hS0] at hw
        have HS0 := Lib.hid hS0
        clear hS0
        have Hw0 := Lib.hid hw
        clear hw hlt hi
        obtain ⟨wu, hwu⟩ : ∃ W, W = wr := ⟨_, rfl⟩
        subst hwu
        have hg7 := grow_lit wu #[.int .u8 102, .int .u8 105, .int .u8 114, .int .u8 115, .int .u8 116] 5
        obtain ⟨A0, B0, D0, E0, G0, G1, G2, l0, T0⟩ := Fc.told (who := 0) (n := 0) (by decide) (Nat.zero_le _)
        have hS0 : S0 = Ln.start 3 := by rw [HS0.out, Hm3.out]
        have hA1ok : ((S0.submit 0 0).settle 2).ok = true := by rw [T0.a S0 hS0]; exact T0.okA
        have HS3 := Lib.hid hS0
        have HA1ok := Lib.hid hA1ok
        clear T0 A0 B0 D0 E0 G0 G1 G2 l0
        have hsub := Hw0.out.submitG hg7 (i := 0) (c := 0) (by decide) (by decide) Hf.out (by decide) (xv := .slice (some ⟨wu.heap.size, 0, none⟩) 5 5) (fun V ps hw hs => by
          rw [← Hff.out]
          exact ⟨bv_lit wu firstB (by decide) (by decide), .inr fun b hb hF => by
            cases hb
            exact absurd (hw.lt hF) (Nat.lt_irrefl _)⟩) (settle_ok1 hA1ok)
        obtain ⟨tq, htq⟩ : ∃ q, takes (S0.nd 0) (S0.box 0) = q := ⟨_, rfl⟩
        rw [htq] at hsub
        have Hsub : Hid (Calls Try.prog 13 #[.pointer (some ⟨wb, 0, none⟩), .int .i64 0, .slice (some ⟨wu.heap.size, 0, none⟩) 5 5] (litF wu #[.int .u8 102, .int .u8 105, .int .u8 114, .int .u8 115, .int .u8 116] 5) fun e w' => e = .returned (.bool tq) ∧ Wt f F0 w1 wb 3 1 147 (S0.submit 0 0) w') := Lib.hid hsub
        have hcx := conv_first wu
        clear hg7 htq hsub Hw0 hS0 hA1ok
        go_wp2_with fail
        (with_reducible refine Hsub.out.mono ?_)
        rintro e w3 ⟨rfl, hw3⟩
        have Hst : Hid (Calls Try.prog 12 #[.pointer (some ⟨wb, 0, none⟩), .int .i64 2] w3 fun e w' => e = .returned (.tuple #[]) ∧ Wt f F0 w1 wb 3 1 179 ((S0.submit 0 0).settle 2) w') := Lib.hid (hw3.settle (R := 2) (by decide) (by decide) (by decide) (by decide) Hf.out HA1ok.out)
        clear hw3 Hsub hcx
        go_wp2_with fail
        (with_reducible refine Hst.out.mono ?_)
        rintro e w4 ⟨rfl, hw4⟩
        have Hpl : Hid (Calls Try.prog 17 #[.int .i64 who, .int .i64 3] w4 fun e w' => e = .returned (.int .i64 (placeN who 3 : Int)) ∧ w' = w4) := Lib.hid (wplace_any (m := 3) (by decide) (by decide) w4)
        have hq3 : placeN who 3 < 3 := placeN_lt (by decide)
        obtain ⟨q, hq⟩ : ∃ q, placeN who 3 = q := ⟨_, rfl⟩
        rw [hq] at Hpl hq3
        obtain ⟨A, B, D, E, F, G, H, last, T⟩ := Fc.told (who := q) (n := cmds.length) hq3 hn20
        rw [T.a S0 HS3.out] at hw4
        have HT := Lib.hid T
        clear hq Hst T HS3 HS0 HA1ok Hst0 Hokm Hm3
        have Hw4 := Lib.hid hw4
        clear hw4
        go_wp2_with fail
        (with_reducible refine Hpl.out.mono ?_)
        rintro e w5 ⟨rfl, hw5⟩
        have hw6 := hw5.symm
        subst hw6
        clear hw5 Hpl
        have Hcm : Hid (Calls Try.prog 11 #[.pointer (some ⟨wb, 0, none⟩), .agg #[.int .i64 2, .int .i64 (q : Int), .int .i64 0, .int .i64 0]] w4 fun e w' => e = .returned (.tuple #[]) ∧ Wt f F0 w1 wb 3 1 180 B w') := Lib.hid (by
          have h9 := Hw4.out.command (by decide) (cmdOk2 q (by omega))
          rw [HT.out.b] at h9
          exact h9)
        clear Hw4
        go_wp2_with fail
        (with_reducible refine Hcm.out.mono ?_)
        rintro e w5 ⟨rfl, hw5⟩
        obtain ⟨lw, _, _, ⟨ka, kc, c4⟩, _, hc0, hc1, _, _⟩ := hw5.read
        have hln := HT.out.l
        have hl1 : IntKind.i64.wrap (last : Int) = (last : Int) := IntWalk.i64_in _ (by omega)
        have hl2 : (B.cfgs.length : Int) - 1 = (last : Int) := by omega
        have hlb : last < B.cfgs.length := by omega
        have Hw5 := Lib.hid hw5
        have Hlb := Lib.hid hlb
        clear hw5 Hcm hc0 hc1 hln hlb
        go_wp2_with fail
        clear lw c4 hl1 hl2
        obtain ⟨wv, hwv⟩ : ∃ W, W = w5 := ⟨_, rfl⟩
        subst hwv
        go_loopw [8] (fun iv wr => ∃ i : Nat, iv = .int .i64 i ∧ i ≤ 3 ∧ Wt f F0 w1 wb 3 1 180 (Fc.conf q last B i) wr) (fun iv _ => 3 - (intOf iv).toNat)
        case atStart => exact ⟨0, rfl, Nat.zero_le _, Hw5.out⟩
        case round =>
          clear Hw5
          obtain ⟨i, rfl, hi, hw⟩ := hrel
          have Hw := Lib.hid hw
          by_cases hlt : i < 3
          · have hi1 : decide ((i : Int) < 3) = true := by simp; omega
            have hi2 : decide (i < 3) = true := by simp; omega
            by_cases hiq : i = q
            · have hb : ((i : Int) != (q : Int)) = false := by simp [hiq]
              have Hnx : Hid (Fc.conf q last B (i + 1) = Fc.conf q last B i) := Lib.hid (by rw [← hiq]; exact Fc.conf_at _ _ _)
              clear hiq hw
              go_wp2
              go_roundw
              case rel => exact ⟨i + 1, by simp, hlt, by rw [Hnx.out]; exact Hw.out⟩
              case measure => simp [intOf]; omega
            · have hb : ((i : Int) != (q : Int)) = true := by simp; omega
              have Hnx := Lib.hid (Fc.conf_ne hiq last B)
              have hcok : ((Fc.conf q last B i).configure i last).ok = true := by
                rw [← Hnx.out]
                exact Fc.conf_ok (n := 3) (by rw [HT.out.d]; exact HT.out.okD) (i + 1) hlt
              have Hcf := Lib.hid (hw.configure (i := i) (n := last) (by decide) (by decide) Hf.out hlt (by rw [conf_cfgs]; exact Hlb.out) hcok)
              clear hiq hw hcok
              go_wp2_with fail
              (with_reducible refine Hcf.out.mono ?_)
              rintro e w6 ⟨rfl, hw6⟩
              have Hw6 := Lib.hid hw6
              clear hw6 Hcf
              go_wp2
              go_roundw
              case rel => exact ⟨i + 1, by simp, hlt, by rw [Hnx.out]; exact Hw6.out⟩
              case measure => simp [intOf]; omega
          · have hmi : i = 3 := by omega
            have hi1 : decide ((i : Int) < 3) = false := by simp; omega
            have hi2 : decide (i < 3) = false := by simp; omega
            rw [hmi, HT.out.d] at hw
            have HwD := Lib.hid hw
            obtain ⟨lw, _, _, _, ⟨ra, rc, c5⟩, _⟩ := hw.read
            clear hw hlt hi Hw hmi
            obtain ⟨was, hwas⟩ : ∃ q, D.row.length = q := ⟨_, rfl⟩
            rw [hwas] at c5
            have Hwas := Lib.hid hwas
            clear hwas
            obtain ⟨bq, hbq⟩ : ∃ b, ((q : Int) == 0) = b := ⟨_, rfl⟩
            go_upto_if 70 with fail
            clear lw c5
            have Hbq := Lib.hid hbq
            clear hbq
            go_cut [10, 11] from 71 to 82 (fun hv iv wx => hv = .int .i64 (Fc.hd q : Int) ∧ Wt f F0 w1 wb 3 21 180 E wx)
            case first =>
              cases bq with
              | true =>
                have hq0 : q = 0 := by have h0 : (q : Int) = 0 := by simpa using Hbq.out
                                       omega
                have hhd : Fc.hd q = 1 := by unfold Fc.hd; rw [if_pos hq0]
                have Hhd := Lib.hid hhd
                have HE := Lib.hid (HT.out.e0 hq0)
                clear hq0 hhd
                go_wp2_with fail
                go_loopw [11] (fun jv wr => ∃ j : Nat, jv = .int .i64 j ∧ j ≤ cmds.length ∧ Wt f F0 w1 wb 3 (1 + j) 180 (Fc.subs 0 D j) wr) (fun jv _ => cmds.length - (intOf jv).toNat)
                case atStart => exact ⟨0, rfl, Nat.zero_le _, HwD.out⟩
                case round =>
                  clear HwD
                  obtain ⟨j, rfl, hj, hw⟩ := hrel
                  have hwf : Wt f (fun x => w1.heap.size ≤ x) w1 wb 3 (1 + j) 180 (Fc.subs 0 D j) wr := by rw [HF0.out]; exact hw
                  have hgw := wt_grow hwf
                  by_cases hlt : j < cmds.length
                  · obtain ⟨p, hp⟩ : ∃ p, cmds[j]? = some p := ⟨cmds[j], by simp [hlt]⟩
                    obtain ⟨b, o, cc, pa, pc, he, hb2, hcell, hbv⟩ := Hv1.out.at hp
                    cases he
                    have hb3 := Nat.lt_of_lt_of_le hb2 hgw.size
                    have hc2 := (hgw.cell hb2).trans hcell
                    have hj1 : (j : Int) < (cmds.length : Int) := by omega
                    have hpj : f (j + 1) = p := by rw [← Hff.out]; exact fenF_of hp
                    have hsok : ((Fc.subs 0 D j).submit 0 (j + 1)).ok = true := by
                      rw [← Fc.subs_s]
                      exact Fc.subs_ok (n := cmds.length) (by rw [HE.out]; exact HT.out.okE) (j + 1) hlt
                    have hsb := hw.submit (i := 0) (c := j + 1) (by omega) (by decide) Hf.out (by decide) (xv := .slice pa p.length pc) (fun V ps _ hs => by rw [hpj]; rw [← HF0.out] at hs; exact bw_in hbv hs) hsok
                    obtain ⟨tq2, htq2⟩ : ∃ t, takes ((Fc.subs 0 D j).nd 0) ((Fc.subs 0 D j).box 0) = t := ⟨_, rfl⟩
                    rw [htq2] at hsb
                    have Hsb : Hid (Calls Try.prog 13 #[.pointer (some ⟨wb, 0, none⟩), .int .i64 0, .slice pa p.length pc] wr fun e w' => e = .returned (.bool tq2) ∧ Wt f F0 w1 wb 3 (1 + j + 1) 180 (Fc.subs 0 D (j + 1)) w') := Lib.hid (by rw [Fc.subs_s]; exact hsb)
                    clear hw hwf hgw hp hbv hcell hpj hsok hsb htq2
                    go_wp2_with fail
                    (with_reducible refine Hsb.out.mono ?_)
                    rintro e w3 ⟨rfl, hw3⟩
                    have Hw3 := Lib.hid hw3
                    clear hw3 Hsb hb3 hc2
                    go_wp2
                    go_roundw
                    case rel => exact ⟨j + 1, by simp, hlt, by rw [← Nat.add_assoc]; exact Hw3.out⟩
                    case measure => simp [intOf]; omega
                  · have hjn : j = cmds.length := by omega
                    subst hjn
                    have HwE : Hid (Wt f F0 w1 wb 3 21 180 E wr) := Lib.hid (by rw [← HE.out]; exact hw.up (by omega) (Nat.le_refl _))
                    clear hw hwf hgw hlt hj
                    go_wp2
                    go_meet
                    exact ⟨by rw [Hhd.out]; rfl, HwE.out⟩
              | false =>
                have hq0 : ¬ q = 0 := by have h0 : ¬ (q : Int) = 0 := by simpa using Hbq.out
                                         omega
                have hhd : Fc.hd q = 0 := by unfold Fc.hd; rw [if_neg hq0]
                have Hhd := Lib.hid hhd
                have HwE : Hid (Wt f F0 w1 wb 3 21 180 E wr) := Lib.hid (by rw [← HT.out.e1 hq0]; exact HwD.out.up (by decide) (Nat.le_refl _))
                clear hq0 hhd
                go_wp2
                go_meet
                exact ⟨by rw [Hhd.out]; rfl, HwE.out⟩
            case rest =>
              obtain ⟨rfl, hwE⟩ := hcut
              have HwE := Lib.hid hwE
              have Hwb : Hid (was ≤ 21) := Lib.hid (by have h1 := HwD.out.read.2.2.2.2.2.2.2.2; rw [Hwas.out] at h1; omega)
              have HFl : Hid (Wd.flush (3000 - 0) E = F) := Lib.hid HT.out.f
              clear hwE HwD
              go_wp2_with fail
              go_loopw [12] (fun nv wx => ∃ (n : Nat) (W3 : Wd Nat), nv = .int .i64 n ∧ n ≤ 3000 ∧ Wt f F0 w1 wb 3 21 180 W3 wx ∧ Wd.flush (3000 - n) W3 = F) (fun nv _ => 3000 - (intOf nv).toNat)
              case atStart => exact ⟨0, _, rfl, Nat.zero_le _, HwE.out, HFl.out⟩
              case round =>
                clear HwE
                obtain ⟨n, W3, rfl, hn, hw3, hf3⟩ := hrel
                obtain ⟨hwl, _, ⟨ga, gc, n3⟩, _, _, _, _, hbl, _⟩ := hw3.read
                have Hw3 := Lib.hid hw3
                have Hf3 := Lib.hid hf3
                by_cases hgo : n < 3000 ∧ 0 < W3.bag.length
                · have hg1 : decide ((n : Int) < 3000) = true := by simp; omega
                  have hg1' : decide (n < 3000) = true := by simp; omega
                  have hg2 : decide ((0 : Int) < (W3.bag.length : Int)) = true := by simp; omega
                  have hg2' : decide (0 < W3.bag.length) = true := by simp; omega
                  have hfl := flush_step hgo.1 hgo.2
                  have hf4 := hfl.symm.trans hf3
                  have hdok : (W3.deliver 0).ok = true := flush_ok1 (by rw [hf4]; exact HT.out.okF)
                  have Hdl : Hid (Calls Try.prog 19 #[.pointer (some ⟨wb, 0, none⟩), .int .i64 0] wr fun e w' => e = .returned (.tuple #[]) ∧ Wt f F0 w1 wb 3 21 180 (W3.deliver 0) w') := Lib.hid (hw3.deliver (by omega) (by decide) (by decide) Hf.out hgo.2 hdok)
                  have Hf4 := Lib.hid hf4
                  have Hn := Lib.hid hgo.1
                  clear hw3 hf3 hfl hf4 hdok hgo hbl
                  go_wp2_with fail
                  (with_reducible refine Hdl.out.mono ?_)
                  rintro e w5 ⟨rfl, hw5⟩
                  have Hw5 := Lib.hid hw5
                  clear hw5 Hdl
                  go_wp2
                  go_roundw
                  case rel => exact ⟨n + 1, _, by simp, Hn.out, Hw5.out, Hf4.out⟩
                  case measure => simp [intOf]; have := Hn.out; omega
                · have hWY : W3 = F := by rw [← hf3]; exact (flush_end hgo).symm
                  subst hWY
                  obtain ⟨b1, hb1⟩ : ∃ b, decide (n < 3000) = b := ⟨_, rfl⟩
                  have hb1' : decide ((n : Int) < 3000) = b1 := by rw [← hb1]; by_cases h : n < 3000 <;> simp [h] <;> omega
                  obtain ⟨b2, hb2⟩ : ∃ b, decide (0 < W3.bag.length) = b := ⟨_, rfl⟩
                  have hb2' : decide ((0 : Int) < (W3.bag.length : Int)) = b2 := by rw [← hb2]; simp
                  have hbb : b1 = false ∨ (b1 = true ∧ b2 = false) := by
                    cases b1 with
                    | false => exact .inl rfl
                    | true => cases b2 with
                      | false => exact .inr ⟨rfl, rfl⟩
                      | true => exact absurd ⟨of_decide_eq_true hb1, of_decide_eq_true hb2⟩ hgo
                  clear hf3 Hf3 hgo hw3 hbl
                  rcases hbb with rfl | ⟨rfl, rfl⟩
                  all_goals
                    have hwF := Hw3.out
                    obtain ⟨lw, _, _, _, ⟨ra, rc, c5⟩, _⟩ := hwF.read
                    have hwg := hwF.wrong
                    rw [HT.out.rowF, Hwas.out] at c5
                    rw [HT.out.okF] at hwg
                    have hse : ((was : Int) != (was : Int)) = false := by simp
                    have HwF : Hid (Wt f F0 w1 wb 3 (21 + 0) 180 (Fc.subs (Fc.hd q) W3 0) wr) := Lib.hid hwF
                    clear hwF Hw3
                    go_wp2_with fail
                    clear hb1 hb1' hb2 hb2' n3 hwl lw c5 hwg hse
                    go_loopw [13] (fun jv wr => ∃ j : Nat, jv = .int .i64 j ∧ j ≤ cmds.length ∧ Wt f F0 w1 wb 3 (21 + j) 180 (Fc.subs (Fc.hd q) W3 j) wr) (fun jv _ => cmds.length - (intOf jv).toNat)
                    case atStart => exact ⟨0, rfl, Nat.zero_le _, HwF.out⟩
                    case round =>
                      clear HwF
                      obtain ⟨j, rfl, hj, hw⟩ := hrel
                      have hwf : Wt f (fun x => w1.heap.size ≤ x) w1 wb 3 (21 + j) 180 (Fc.subs (Fc.hd q) W3 j) wr := by rw [HF0.out]; exact hw
                      have hgw := wt_grow hwf
                      by_cases hlt : j < cmds.length
                      · obtain ⟨p, hp⟩ : ∃ p, cmds[j]? = some p := ⟨cmds[j], by simp [hlt]⟩
                        obtain ⟨b, o, cc, pa, pc, he, hb2, hcell, hbv⟩ := Hv1.out.at hp
                        cases he
                        have hb3 := Nat.lt_of_lt_of_le hb2 hgw.size
                        have hc2 := (hgw.cell hb2).trans hcell
                        have hj1 : (j : Int) < (cmds.length : Int) := by omega
                        have hpj : f (j + 1) = p := by rw [← Hff.out]; exact fenF_of hp
                        have hsok : ((Fc.subs (Fc.hd q) W3 j).submit (Fc.hd q) (j + 1)).ok = true := by
                          rw [← Fc.subs_s]
                          exact Fc.subs_ok (n := cmds.length) (by rw [HT.out.g]; exact HT.out.okG) (j + 1) hlt
                        have hh3 : Fc.hd q < 3 := by unfold Fc.hd; split <;> omega
                        have hsb := hw.submit (i := Fc.hd q) (c := j + 1) (by omega) (by decide) Hf.out hh3 (xv := .slice pa p.length pc) (fun V ps _ hs => by rw [hpj]; rw [← HF0.out] at hs; exact bw_in hbv hs) hsok
                        rw [HT.out.tk j hlt] at hsb
                        have Hsb : Hid (Calls Try.prog 13 #[.pointer (some ⟨wb, 0, none⟩), .int .i64 (Fc.hd q : Int), .slice pa p.length pc] wr fun e w' => e = .returned (.bool true) ∧ Wt f F0 w1 wb 3 (21 + j + 1) 180 (Fc.subs (Fc.hd q) W3 (j + 1)) w') := Lib.hid (by rw [Fc.subs_s]; exact hsb)
                        clear hw hwf hgw hp hbv hcell hpj hsok hsb hh3
                        go_wp2_with fail
                        (with_reducible refine Hsb.out.mono ?_)
                        rintro e w3 ⟨rfl, hw3⟩
                        have Hw3 := Lib.hid hw3
                        clear hw3 Hsb hb3 hc2
                        go_wp2
                        go_roundw
                        case rel => exact ⟨j + 1, by simp, hlt, by rw [← Nat.add_assoc]; exact Hw3.out⟩
                        case measure => simp [intOf]; omega
                      · have hjn : j = cmds.length := by omega
                        have HwG : Hid (Wt f F0 w1 wb 3 41 180 (Fc.rounds G 0) wr) := Lib.hid (by
                          rw [hjn, HT.out.g] at hw
                          rw [Fc.rounds_0]
                          exact hw.up (by omega) (Nat.le_refl _))
                        have hj1 : decide ((j : Int) < (cmds.length : Int)) = false := by simp; omega
                        have hj2 : decide (j < cmds.length) = false := by simp; omega
                        clear hw hwf hgw hlt hj hjn
                        go_wp2_with fail
                        clear hj1 hj2
                        go_loopw [14] (fun kv wr => ∃ k : Nat, kv = .int .i64 k ∧ k ≤ 4 ∧ Wt f F0 w1 wb 3 41 180 (Fc.rounds G k) wr) (fun kv _ => 4 - (intOf kv).toNat)
                        case atStart => exact ⟨0, rfl, Nat.zero_le _, HwG.out⟩
                        case round =>
                          clear HwG
                          obtain ⟨k, rfl, hk, hw6⟩ := hrel
                          have Hw6 := Lib.hid hw6
                          by_cases hlt6 : k < 4
                          · have hk1 : decide ((k : Int) < 4) = true := by simp; omega
                            have hk2 : decide (k < 4) = true := by simp; omega
                            have HBok : Hid ((Fc.beats (Fc.rounds G k) 3).ok = true) := Lib.hid (flush_ok1 (by
                              rw [← Fc.rounds_s]
                              exact Fc.rounds_ok (n := 4) (by rw [HT.out.h]; exact HT.out.okH) (k + 1) hlt6))
                            clear hw6
                            go_wp2_with fail
                            clear hk1 hk2
                            go_loopw [15] (fun iv wr => ∃ i : Nat, iv = .int .i64 i ∧ i ≤ 3 ∧ Wt f F0 w1 wb 3 41 180 (Fc.beats (Fc.rounds G k) i) wr) (fun iv _ => 3 - (intOf iv).toNat)
                            case atStart => exact ⟨0, rfl, Nat.zero_le _, Hw6.out⟩
                            case round =>
                              clear Hw6
                              obtain ⟨i, rfl, hi, hw⟩ := hrel
                              have Hw := Lib.hid hw
                              by_cases hlt : i < 3
                              · have hi1 : decide ((i : Int) < 3) = true := by simp; omega
                                have hi2 : decide (i < 3) = true := by simp; omega
                                have hi3 : (i : Int) < 3 := by omega
                                have hbok : ((Fc.beats (Fc.rounds G k) i).beat i).ok = true := by
                                  rw [← Fc.beats_s]
                                  exact Fc.beats_ok HBok.out (i + 1) hlt
                                obtain ⟨g, gc, nb, k1, k2, k3, k4, ms, hbt, htl⟩ := hw.beat (by decide) (by decide) Hf.out hlt hbok
                                have Hbt := Lib.hid hbt
                                have Htl := Lib.hid htl
                                clear hw hbt htl hbok Hw
                                go_wp2_with fail
                                (with_reducible refine Hbt.out.mono ?_)
                                rintro e w4 ⟨v, rfl, hv, hg4⟩
                                have Ht := Lib.hid (Htl.out v w4 hv hg4)
                                obtain ⟨va, vc, rfl⟩ := hv.slice
                                clear hv hg4 Hbt Htl k1 k2 k3 k4
                                go_wp2_with fail
                                (with_reducible refine Ht.out.mono ?_)
                                rintro e w5 ⟨rfl, hw5⟩
                                have Hw5 := Lib.hid hw5
                                clear hw5 Ht
                                go_wp2
                                go_roundw
                                case rel => exact ⟨i + 1, by simp, hlt, Hw5.out⟩
                                case measure => simp [intOf]; omega
                              · have hi1 : decide ((i : Int) < 3) = false := by simp; omega
                                have hi2 : decide (i < 3) = false := by simp; omega
                                have hi3 : i = 3 := by omega
                                rw [hi3] at hw
                                have HwB := Lib.hid hw
                                obtain ⟨Y, hY⟩ : ∃ Y, Fc.rounds G (k + 1) = Y := ⟨_, rfl⟩
                                have HFl : Hid (Wd.flush (3000 - 0) (Fc.beats (Fc.rounds G k) 3) = Y) := Lib.hid (by rw [← hY, Fc.rounds_s])
                                have HYok : Hid (Y.ok = true) := Lib.hid (by rw [← hY]; exact Fc.rounds_ok (n := 4) (by rw [HT.out.h]; exact HT.out.okH) (k + 1) hlt6)
                                have HWY := Lib.hid hY
                                clear hw hlt hi hi3 hY Hw
                                go_wp2_with fail
                                clear hi1 hi2
                                go_loopw [16] (fun nv wx => ∃ (n : Nat) (W3 : Wd Nat), nv = .int .i64 n ∧ n ≤ 3000 ∧ Wt f F0 w1 wb 3 41 180 W3 wx ∧ Wd.flush (3000 - n) W3 = Y) (fun nv _ => 3000 - (intOf nv).toNat)
                                case atStart => exact ⟨0, _, rfl, Nat.zero_le _, HwB.out, HFl.out⟩
                                case round =>
                                  clear HwB
                                  obtain ⟨n, W3, rfl, hn, hw3, hf3⟩ := hrel
                                  obtain ⟨hwl, _, ⟨ga, gc, n3⟩, _, _, _, _, hbl, _⟩ := hw3.read
                                  have Hw3 := Lib.hid hw3
                                  have Hf3 := Lib.hid hf3
                                  by_cases hgo : n < 3000 ∧ 0 < W3.bag.length
                                  · have hg1 : decide ((n : Int) < 3000) = true := by simp; omega
                                    have hg1' : decide (n < 3000) = true := by simp; omega
                                    have hg2 : decide ((0 : Int) < (W3.bag.length : Int)) = true := by simp; omega
                                    have hg2' : decide (0 < W3.bag.length) = true := by simp; omega
                                    have hfl := flush_step hgo.1 hgo.2
                                    have hf4 := hfl.symm.trans hf3
                                    have hdok : (W3.deliver 0).ok = true := flush_ok1 (by rw [hf4]; exact HYok.out)
                                    have Hdl : Hid (Calls Try.prog 19 #[.pointer (some ⟨wb, 0, none⟩), .int .i64 0] wr fun e w' => e = .returned (.tuple #[]) ∧ Wt f F0 w1 wb 3 41 180 (W3.deliver 0) w') := Lib.hid (hw3.deliver (by omega) (by decide) (by decide) Hf.out hgo.2 hdok)
                                    have Hf4 := Lib.hid hf4
                                    have Hn := Lib.hid hgo.1
                                    clear hw3 hf3 hfl hf4 hdok hgo hbl
                                    go_wp2_with fail
                                    (with_reducible refine Hdl.out.mono ?_)
                                    rintro e w5 ⟨rfl, hw5⟩
                                    have Hw5 := Lib.hid hw5
                                    clear hw5 Hdl
                                    go_wp2
                                    go_roundw
                                    case rel => exact ⟨n + 1, _, by simp, Hn.out, Hw5.out, Hf4.out⟩
                                    case measure => simp [intOf]; have := Hn.out; omega
                                  · have hWY : W3 = Y := by rw [← hf3]; exact (flush_end hgo).symm
                                    subst hWY
                                    obtain ⟨b1, hb1⟩ : ∃ b, decide (n < 3000) = b := ⟨_, rfl⟩
                                    have hb1' : decide ((n : Int) < 3000) = b1 := by rw [← hb1]; by_cases h : n < 3000 <;> simp [h] <;> omega
                                    obtain ⟨b2, hb2⟩ : ∃ b, decide (0 < W3.bag.length) = b := ⟨_, rfl⟩
                                    have hb2' : decide ((0 : Int) < (W3.bag.length : Int)) = b2 := by rw [← hb2]; simp
                                    have hbb : b1 = false ∨ (b1 = true ∧ b2 = false) := by
                                      cases b1 with
                                      | false => exact .inl rfl
                                      | true => cases b2 with
                                        | false => exact .inr ⟨rfl, rfl⟩
                                        | true => exact absurd ⟨of_decide_eq_true hb1, of_decide_eq_true hb2⟩ hgo
                                    clear hf3 Hf3 hgo hw3 hbl
                                    rcases hbb with rfl | ⟨rfl, rfl⟩
                                    all_goals
                                      go_wp2_with fail
                                      clear hb1 hb1' hb2 hb2' n3 hwl
                                      have HwN : Hid (Wt f F0 w1 wb 3 41 180 (Fc.rounds G (k + 1)) wr) := Lib.hid (by rw [HWY.out]; exact Hw3.out)
                                      go_roundw
                                      case rel => exact ⟨k + 1, by simp, hlt6, HwN.out⟩
                                      case measure => simp [intOf]; omega
                          · have hk1 : decide ((k : Int) < 4) = false := by simp; omega
                            have hk2 : decide (k < 4) = false := by simp; omega
                            have hk4 : k = 4 := by omega
                            obtain ⟨lw, _, _, _, ⟨ra, rc, c5⟩, _⟩ := hw6.read
                            have hwg := hw6.wrong
                            have hHe : Fc.rounds G 4 = H := HT.out.h
                            rw [hk4] at c5 hwg hw6
                            rw [hHe] at c5 hwg hw6
                            rw [HT.out.rowH, Hwas.out] at c5
                            rw [HT.out.okH] at hwg
                            have Hho : Hid (Calls Try.prog 10 #[.pointer (some ⟨wb, 0, none⟩)] wr fun e w' => e = .returned (.bool true) ∧ Grow wr w') := Lib.hid (wholds_any hw6 (by decide) (by decide) (by omega) HT.out.holds)
                            have hwf : Wt f (fun x => w1.heap.size ≤ x) w1 wb 3 41 180 H wr := by rw [HF0.out]; exact hw6
                            have hgw := Lib.hid (Hg1.out.trans (wt_grow hwf))
                            have hwa : IntKind.i64.wrap ((was : Int) + (cmds.length : Int)) = (was : Int) + (cmds.length : Int) := IntWalk.i64_in _ (by have := Hwb.out; omega)
                            have hse : (((was + cmds.length : Nat) : Int) == (was : Int) + (cmds.length : Int)) = true := by simp
                            clear hw6 hwf hHe hk4 Hw6
                            go_wp2_with fail
                            (with_reducible refine Hho.out.mono ?_)
                            rintro e w9 ⟨rfl, hg9⟩
                            have Hfin := Lib.hid (hgw.out.trans hg9)
                            clear hg9 Hho
                            go_wp2
                            go_ret
                            exact ⟨rfl, Hfin.out⟩
end
end Go.Proofs.Ytfchjoejdijjeaa
