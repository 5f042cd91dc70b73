/- Merged out of D5, D6, D7: helpers. -/
import Derived.Test.YtfchjoejdijjeaaCF
set_option linter.unusedSimpArgs false
set_option linter.unusedVariables false
/- The document's codec: Number, Bytes onto bytes of one's own; ReadNumber, ReadBytes of what was written. -/
namespace Go.Proofs.Ytfchjoejdijjeaa
open Go.RowKit Go.Gl Go.Wal Go.Ch Go.Shelf

def RNum (B : Nat) (w : World) (l : List UInt8) (n : Nat) (bv vv : Value) (wr : World) : Prop :=
  ∃ (pre : List UInt8) (m k : Nat), vv = .int .u64 m ∧ OwnB B wr bv (l ++ pre) ∧ m < 128 ^ (k + 1) ∧ pre.length + (k + 1) = 10 ∧ numD n = pre ++ numF (k + 1) m ∧ m < 18446744073709551616 ∧ Below B w wr

set_option maxRecDepth 100000 in
set_option maxHeartbeats 4000000 in
theorem rnumber_any {B : Nat} {w : World} {bv : Value} {l : List UInt8} (h : OwnB B w bv l) (hB : B ≤ w.heap.size) (hl : l.length ≤ 1000000000000) {n : Nat} (hn : n < 18446744073709551616) :
    Calls Try.prog 99 #[bv, .int .u64 n] w fun e w' => ∃ v, e = .returned v ∧ OwnB B w' v (l ++ numD n) ∧ Below B w w' := by
  have Hst : Hid (RNum B w l n bv (.int .u64 n) w) := Lib.hid ⟨[], n, 9, rfl, by simpa using h, by omega, rfl, rfl, hn, Below.refl _ _⟩
  obtain ⟨xa, xc, rfl⟩ := h.slice
  clear h
  go_enter Try.func99, Try.ntmps99
  go_wp2_with fail
  go_loopw [0, 1] (fun bv vv wr => RNum B w l n bv vv wr) (fun _ vv _ => (intOf vv).toNat)
  case atStart => exact Hst.out
  case round =>
    obtain ⟨pre, m, k, rfl, hown, hm, hk, hnum, hm64, hg⟩ := hrel
    have hgs : B ≤ wr.heap.size := Nat.le_trans hB hg.size
    have hll : (l ++ pre).length + 1 ≤ 140737488355328 := by simp; omega
    obtain ⟨ba, bc, rfl⟩ := hown.slice
    by_cases hlt : 128 ≤ m
    · have hge : decide ((128 : Int) ≤ (m : Int)) = true := by simp; omega
      have hk1 : 0 < k := by
        rcases Nat.eq_zero_or_pos k with rfl | h1
        · simp at hm; omega
        · exact h1
      obtain ⟨k', rfl⟩ : ∃ k', k = k' + 1 := ⟨k - 1, by omega⟩
      obtain ⟨v', w', h1, h2, h3⟩ := append_byte hown (UInt8.ofNat (m % 128 + 128)) (or128 m) hgs hll
      have Hrun := Lib.hid h1
      have hrel : RNum B w l n v' (.int .u64 ((m : Int) / 128)) w' := by
        refine ⟨pre ++ [UInt8.ofNat (m % 128 + 128)], m / 128, k', by simp, by rw [← List.append_assoc]; exact h2, ?_, by simp; omega, ?_, by omega, Below.trans hg h3⟩
        · rw [Nat.pow_succ] at hm; exact Nat.div_lt_of_lt_mul (by rw [Nat.mul_comm]; exact hm)
        · rw [hnum, numF, if_neg (by omega)]; simp
      have Hrel := Lib.hid hrel
      clear h1 h2 h3 hrel hown hnum hm hk hg hgs hll
      go_wp2_with (at_builtin; refine wpList_append rfl rfl rfl rfl Hrun.out ?_)
      go_roundw
      case rel => exact Hrel.out
      case measure => simp [intOf]; omega
    · have hge : decide ((128 : Int) ≤ (m : Int)) = false := by simp; omega
      have hx : (m : Int) = (((UInt8.ofNat m).toNat : Nat) : Int) := by rw [UInt8.toNat_ofNat_of_lt' (by simp [UInt8.size]; omega)]
      obtain ⟨v', w', h1, h2, h3⟩ := append_byte hown (UInt8.ofNat m) hx hgs hll
      have Hrun := Lib.hid h1
      have hpost : OwnB B w' v' (l ++ numD n) := by
        rw [hnum, numF, if_pos (by omega), ← List.append_assoc]; exact h2
      have Hpost := Lib.hid hpost
      have Hg := Lib.hid (Below.trans hg h3)
      clear h1 h2 h3 hown hnum hm hk hg hpost hx hgs hll
      go_wp2_with (at_builtin; refine wpList_append rfl rfl rfl rfl Hrun.out ?_)
      go_ret
      exact ⟨_, rfl, Hpost.out, Hg.out⟩

set_option maxRecDepth 100000 in
set_option maxHeartbeats 1000000 in
theorem rbytes_any {B : Nat} {w : World} {bv xv : Value} {l x : List UInt8} (h : OwnB B w bv l) (hB : B ≤ w.heap.size) (hl : l.length ≤ 900000000000) (hx : ∀ W, Below B w W → Bv W xv x) (hxl : x.length ≤ 1000000000) :
    Calls Try.prog 100 #[bv, xv] w fun e w' => ∃ v, e = .returned v ∧ OwnB B w' v (l ++ bytesD x) ∧ Below B w w' := by
  have Hn := Lib.hid (rnumber_any h hB (by omega) (n := x.length) (by omega))
  have Hx := Lib.hid hx
  obtain ⟨xa, xc, rfl⟩ := (hx w (Below.refl _ _)).slice
  have hwu : IntKind.u64.wrap (x.length : Int) = (x.length : Int) := by simp [IntKind.wrap, IntKind.bits, IntKind.signed]; omega
  clear h hx
  go_enter Try.func100, Try.ntmps100
  go_wp2_with fail
  (with_reducible refine Hn.out.mono ?_)
  rintro e w1 ⟨nv, rfl, ho, hb⟩
  have hx1 := Hx.out w1 hb
  obtain ⟨v', w', r1, r2, r3, _⟩ := append_bytes ho hx1 (Nat.le_trans hB hb.size) (by have := numF_len 10 x.length; simp; unfold numD; omega)
  have Hrun := Lib.hid r1
  have hpost : OwnB B w' v' (l ++ bytesD x) := by unfold bytesD; rw [← List.append_assoc]; exact r2
  have Hpost := Lib.hid hpost
  have hbw : Below B w w' := by
    refine Below.trans hb ⟨r3.os, r3.tape, r3.output, r3.size, fun k hk => r3.block k (by have := hb.size; omega) (fun e => ?_)⟩
    have := (Row1.lt ho e.symm).1
    omega
  have Hbw := Lib.hid hbw
  generalize l ++ numD x.length = y at *
  obtain ⟨na, nc, rfl⟩ := ho.slice
  clear r1 r2 r3 ho hb hx1 hpost hbw Hx Hn
  go_wp2_with (at_builtin; refine wpList_append rfl rfl rfl rfl Hrun.out ?_)
  go_ret
  exact ⟨_, rfl, Hpost.out, Hbw.out⟩

def RrInv (w : World) (l : List UInt8) (vv iv : Value) (wr : World) : Prop :=
  ∃ i v : Nat, iv = .int .i64 i ∧ i ≤ l.length ∧ vv = .int .u64 v ∧ v < 128 ^ i ∧ i ≤ 9 ∧ rnD l = rnF i v (l.drop i) ∧ wr = w

set_option maxRecDepth 100000 in
set_option maxHeartbeats 4000000 in
theorem rreadNumber_ok {w : World} {bv : Value} {l : List UInt8} (h : Bv w bv l) {n q : Nat} (hok : rnD l = (n, q, 0)) :
    Calls Try.prog 97 #[bv] w fun e w' => e = .returned (.tuple #[.int .u64 (n : Int), .int .i64 (q : Int), .int .i64 0]) ∧ w' = w := by
  obtain ⟨ba, bc, rfl, hlc, hm, hn, h⟩ := h
  have H := Lib.hid h
  have Hok := Lib.hid hok
  clear h hok
  go_enter Try.func97, Try.ntmps97
  go_wp2_with fail
  go_loopw [5, 6] (fun vv iv wr => RrInv w l vv iv wr) (fun _ iv _ => l.length - (intOf iv).toNat)
  case atStart => exact ⟨0, 0, rfl, Nat.zero_le _, rfl, by decide, by decide, rfl, rfl⟩
  case round =>
    obtain ⟨i, v, rfl, hi, rfl, hv, hi9, hrn, hwr⟩ := hrel
    have hwr' := hwr.symm
    subst hwr'
    clear hwr
    rw [Hok.out] at hrn
    by_cases hlt : i < l.length
    · obtain ⟨c, hc⟩ : ∃ c, l[i]? = some c := ⟨l[i], by simp [hlt]⟩
      obtain ⟨b, o, rfl, lb, hcs⟩ : ∃ b o, ba = some ⟨b, o, none⟩ ∧ b < w.heap.size ∧ ∀ (j : Nat) (k : UInt8), l[j]? = some k → w.cell? ⟨b, o + j, none⟩ = some (.int .u8 k.toNat) := by
        rcases H.out with h1 | h1
        · rw [h1] at hlt; simp at hlt
        · exact h1
      have ck := hcs i c hc
      rw [rn_step hc] at hrn
      have hc256 := c.toNat_lt
      have hi1 : (i : Int) < (l.length : Int) := by omega
      have hi2 : decide (l.length ≤ i) = false := by simp; omega
      have hi0 : (0 : Int) ≤ (i : Int) := by omega
      have hi10 : decide ((i : Int) < 10) = true := by simp; omega
      have hwi : IntKind.i64.wrap ((i : Int) + 1) = (i : Int) + 1 := IntWalk.i64_in _ (by omega)
      have hw7 : IntKind.i64.wrap (7 * (i : Int)) = 7 * (i : Int) := IntWalk.i64_in _ (by omega)
      generalize c.toNat = k at *
      have hwk : IntKind.u64.wrap (k : Int) = (k : Int) := by simp [IntKind.wrap, IntKind.bits, IntKind.signed]; omega
      have hwu : IntKind.u64.wrap (7 * (i : Int)) = 7 * (i : Int) := by simp [IntKind.wrap, IntKind.bits, IntKind.signed]; omega
      have x1 : bits .and .u64 (k : Int) 127 = ((k % 128 : Nat) : Int) := by
        have := u64_and_nat k 127 (by omega) (by decide)
        rw [show (k &&& 127) = k % 128 from Nat.and_two_pow_sub_one_eq_mod k 7] at this
        exact this
      have h9 : ¬ (i = 9 ∧ 1 < k) := fun h => by rw [if_pos h] at hrn; cases hrn
      rw [if_neg h9] at hrn
      have e9 : ((i : Int) == 9) = true → decide ((1 : Int) < (k : Int)) = false := by simp; omega
      have hx : k % 128 * 128 ^ i < 18446744073709551616 := by
        by_cases hi8 : i ≤ 8
        · have h1 : 128 ^ i ≤ 128 ^ 8 := Nat.pow_le_pow_right (by decide) hi8
          have h2 : k % 128 * 128 ^ i ≤ 127 * 128 ^ 8 := Nat.mul_le_mul (by omega) h1
          omega
        · obtain rfl : i = 9 := by omega
          have : k % 128 ≤ 1 := by omega
          have h2 : k % 128 * 128 ^ 9 ≤ 1 * 128 ^ 9 := Nat.mul_le_mul_right _ this
          omega
      have x2 := or_shape hi9 hv hx
      have X2 := Lib.hid x2
      clear x2 hc hcs
      by_cases h128 : k < 128
      · rw [if_pos h128] at hrn
        have hmod : k % 128 = k := Nat.mod_eq_of_lt h128
        rw [hmod] at X2
        have e128 : decide ((k : Int) < 128) = true := by simp; omega
        have hz : ¬ (k = 0 ∧ 0 < i) := fun h => by rw [if_pos h] at hrn; cases hrn
        rw [if_neg hz] at hrn
        obtain ⟨hn1, hn2⟩ : n = v + k * 128 ^ i ∧ q = i + 1 := by cases hrn; exact ⟨rfl, rfl⟩
        have Hn1 := Lib.hid hn1
        have Hn2 := Lib.hid hn2
        have ei : ((k : Int) == 0) = true → decide ((0 : Int) < (i : Int)) = false := by simp; omega
        have ei' : ((k : Int) == 0) = true → decide (0 < i) = false := by simp; omega
        clear hrn hn1 hn2 hmod hz
        cases e91 : ((i : Int) == 9) <;> cases ek : ((k : Int) == 0)
        all_goals
          first | have e1 := e9 e91 | skip
          first | (have e2 := ei ek; have e3 := ei' ek) | skip
          clear e9 ei ei'
          go_wp2
          refine bodyPost_ret (v := .tuple #[.int .u64 (n : Int), .int .i64 (q : Int), .int .i64 0]) ?_ rfl ⟨rfl, rfl⟩
          rw [Hn1.out, Hn2.out]
          simp only [← X2.out]
          simp [results, Try.results97, go_sem]
      · have hi8 : i ≤ 8 := by
          rcases Nat.lt_or_ge i 9 with h | h
          · omega
          · exfalso; apply h9; omega
        have e91 : ((i : Int) == 9) = false := by simp; omega
        have e128 : decide ((k : Int) < 128) = false := by simp; omega
        have Hmod : Hid (k % 128 = k - 128) := Lib.hid (by omega)
        rw [if_neg h128] at hrn
        have Hrn := Lib.hid hrn
        clear hrn e9 h9
        go_wp2
        go_roundw
        case rel =>
          rw [X2.out]
          refine ⟨i + 1, _, by simp, hlt, rfl, ?_, by omega, by rw [Hok.out, Hrn.out, Hmod.out], rfl⟩
          have h1 : k % 128 * 128 ^ i ≤ 127 * 128 ^ i := Nat.mul_le_mul_right _ (by omega)
          rw [Nat.pow_succ]
          omega
        case measure => simp [intOf]; omega
    · exfalso
      obtain rfl : i = l.length := by omega
      rw [List.drop_length] at hrn
      cases hrn
end Go.Proofs.Ytfchjoejdijjeaa

/- The document's ReadBytes of what was written; Save. -/
namespace Go.Proofs.Ytfchjoejdijjeaa
open Go.RowKit Go.Gl Go.Wal Go.Ch Go.Shelf

set_option maxRecDepth 100000 in
set_option maxHeartbeats 4000000 in
theorem rreadBytes_ok {w : World} {bv : Value} {x r : List UInt8} (h : Bv w bv (bytesD x ++ r)) (hx : x.length ≤ 67108864) (hr : r.length ≤ 1000000000000) :
    Calls Try.prog 98 #[bv, .int .i64 67108864] w fun e w' => ∃ v, e = .returned (.tuple #[v, .int .i64 (((numD x.length).length + x.length : Nat) : Int), .int .i64 0]) ∧ Bv w v x ∧ w' = w := by
  have he : rnD (bytesD x ++ r) = (x.length, (numD x.length).length, 0) := by unfold bytesD; rw [List.append_assoc]; exact rn_any (by omega) _
  have hrn := rreadNumber_ok h he
  have hk := numD_len x.length
  have hlen : (bytesD x ++ r).length = (numD x.length).length + x.length + r.length := by simp [bytesD]; omega
  obtain ⟨ba, bc, rfl⟩ := h.slice
  have hcut := bv_cut h (i := (numD x.length).length) (j := (numD x.length).length + x.length) (by omega) (by omega)
  have hcx : ((bytesD x ++ r).drop (numD x.length).length).take ((numD x.length).length + x.length - (numD x.length).length) = x := by
    unfold bytesD
    rw [List.append_assoc, List.drop_left, Nat.add_sub_cancel_left, List.take_left]
  rw [hcx, Nat.add_sub_cancel_left] at hcut
  have hle : (numD x.length).length + x.length ≤ bc := by obtain ⟨a', c', e', hc', _⟩ := h; cases e'; omega
  rw [hlen] at hrn ⊢
  generalize (numD x.length).length = k at *
  obtain ⟨ad, had⟩ : ∃ ad, (if bc = k then ba else ba.map (fun x => x.add k)) = ad := ⟨_, rfl⟩
  rw [had] at hcut
  have Hcut := Lib.hid hcut
  have Hrn := Lib.hid hrn
  have e1 : decide ((67108864 : Int) < (x.length : Int)) = false := by simp; omega
  have w1 : IntKind.u64.wrap (((k + x.length + r.length : Nat) : Int) - (k : Int)) = ((x.length + r.length : Nat) : Int) := by simp [IntKind.wrap, IntKind.bits, IntKind.signed]; omega
  have w2 : IntKind.i64.wrap ((k : Int) + (x.length : Int)) = (k : Int) + (x.length : Int) := IntWalk.i64_in _ (by omega)
  have w3 : IntKind.i64.wrap (x.length : Int) = (x.length : Int) := IntWalk.i64_in _ (by omega)
  clear h hrn hcut he hcx hlen
  go_enter Try.func98, Try.ntmps98
  go_wp2_with fail
  (with_reducible refine Hrn.out.mono ?_)
  rintro e w1 ⟨rfl, hw1⟩
  have hw2 := hw1.symm
  subst hw2
  clear hw1 Hrn
  go_wp2
  go_ret3
  exact ⟨_, by simp, Hcut.out, rfl⟩

section
variable {C : Type} (f : C → List UInt8)
/-- What Save writes. -/
def comsD (l : List C) : List UInt8 := l.flatMap fun c => bytesD (f c)
def saveD (fst : Nat) (l : List C) : List UInt8 := numD fst ++ comsD f l
variable {f}
theorem comsD_snoc (l : List C) (c : C) : comsD f (l ++ [c]) = comsD f l ++ bytesD (f c) := by simp [comsD]
theorem comsD_len (hf : ∀ c, (f c).length ≤ 1048576) (l : List C) : (comsD f l).length ≤ l.length * 1048586 := by
  induction l with
  | nil => simp [comsD]
  | cons c l ih =>
    have h1 := hf c
    have h2 := numD_len (f c).length
    have : comsD f (c :: l) = bytesD (f c) ++ comsD f l := by simp [comsD]
    rw [this, List.length_append, List.length_cons, Nat.add_mul]
    unfold bytesD
    rw [List.length_append]
    omega

variable {N : Nat → Prop} {w : World} {bb : Nat} {cv : Value} {b : Box C}
def SvInv (f : C → List UInt8) (w : World) (b : Box C) (ov iv : Value) (wr : World) : Prop :=
  ∃ i : Nat, iv = .int .i64 i ∧ i ≤ b.cmds.length ∧ OwnB w.heap.size wr ov (saveD f b.first (b.cmds.take i)) ∧ Grow w wr

set_option maxRecDepth 100000 in
set_option maxHeartbeats 4000000 in
theorem save_any (h : BxAt f N w bb cv b) (hf : ∀ c, (f c).length ≤ 1048576) :
    Calls Try.prog 95 #[.pointer (some ⟨bb, 0, none⟩)] w fun e w' => ∃ v, e = .returned v ∧ OwnB w.heap.size w' v (saveD f b.first b.cmds) ∧ Grow w w' := by
  have hlen := h.len
  have hfst := h.fst
  have hnil : OwnB w.heap.size w (.slice none 0 0) [] := .inl ⟨rfl, rfl⟩
  have Hn := Lib.hid (rnumber_any hnil (Nat.le_refl _) (Nat.zero_le _) (n := b.first) (by omega))
  clear hnil
  obtain ⟨c0, c1, _⟩ := h.cells
  have hlt := lt_of_getElem? h.blk
  have H := Lib.hid h
  obtain ⟨ca, cc, rfl⟩ := h.row.slice
  obtain ⟨SS, hSS⟩ : ∃ S, saveD f b.first b.cmds = S := ⟨_, rfl⟩
  rw [hSS]
  have HSS := Lib.hid hSS
  clear h hSS
  go_enter Try.func95, Try.ntmps95
  go_wp2_with fail
  (with_reducible refine Hn.out.mono ?_)
  rintro e w1 ⟨nv, rfl, ho, hb⟩
  have Hst : Hid (SvInv f w b nv (.int .i64 0) w1) := Lib.hid ⟨0, rfl, Nat.zero_le _, by simpa [saveD, comsD] using ho, hb⟩
  obtain ⟨na, nc, rfl⟩ := ho.slice
  clear Hn ho hb
  go_wp2_with fail
  go_loopw [3, 4] (fun ov iv wr => SvInv f w b ov iv wr) (fun _ iv _ => b.cmds.length - (intOf iv).toNat)
  case atStart => exact Hst.out
  case round =>
    obtain ⟨i, rfl, hi, ho, hg⟩ := hrel
    have h0 := (H.out.grow hg).cells.1
    have hltr := Nat.lt_of_lt_of_le hlt hg.size
    by_cases hlt : i < b.cmds.length
    · obtain ⟨c, hc⟩ : ∃ c, b.cmds[i]? = some c := ⟨b.cmds[i], by simp [hlt]⟩
      obtain ⟨g, cap, u, e, hgl, hu, hbu⟩ := H.out.row.get hc
      cases e
      have hur : wr.cell? ⟨g, i, none⟩ = some u := ((bcell hg).1 _ _ hgl).trans hu
      have hglr := Nat.lt_of_lt_of_le hgl hg.size
      have hi1 : decide ((i : Int) < (b.cmds.length : Int)) = true := by simp; omega
      have hi2 : decide (i < b.cmds.length) = true := by simp; omega
      have hrb := rbytes_any ho hg.size (by have := numD_len b.first; have := comsD_len hf (b.cmds.take i); have h3 : (b.cmds.take i).length ≤ 100000 := by simp; omega
                                            have h4 := Nat.mul_le_mul_right 1048586 h3
                                            unfold saveD; rw [List.length_append]; omega) (x := f c) (xv := u) (fun W hW => hbu.1.grow (Below.trans hg hW)) (by have := hf c; omega)
      have Hrb := Lib.hid hrb
      have Hg := Lib.hid hg
      have htk : b.cmds.take (i + 1) = b.cmds.take i ++ [c] := by rw [List.take_succ_eq_append_getElem hlt]; rw [List.getElem?_eq_getElem hlt] at hc; cases hc; rfl
      have Htk : Hid (saveD f b.first (b.cmds.take (i + 1)) = saveD f b.first (b.cmds.take i) ++ bytesD (f c)) := Lib.hid (by rw [htk]; unfold saveD; rw [comsD_snoc, List.append_assoc])
      obtain ⟨oa, oc, rfl⟩ := ho.slice
      obtain ⟨ua, uc, rfl⟩ := hbu.slice
      generalize saveD f b.first (b.cmds.take i) = S at *
      clear hrb hg ho hbu hu htk hc
      go_wp2_with fail
      (with_reducible refine Hrb.out.mono ?_)
      rintro e w2 ⟨v2, rfl, ho2, hb2⟩
      have Hrel : Hid (SvInv f w b v2 (.int .i64 ((i : Int) + 1)) w2) := Lib.hid ⟨i + 1, by simp, hlt, by rw [Htk.out]; exact ho2, Below.trans Hg.out hb2⟩
      clear Htk Hrb ho2 hb2
      go_wp2
      go_roundw
      case rel => exact Hrel.out
      case measure => simp [intOf]; omega
    · obtain rfl : i = b.cmds.length := by omega
      rw [List.take_length, HSS.out] at ho
      have Ho := Lib.hid ho
      obtain ⟨oa, oc, rfl⟩ := ho.slice
      clear ho
      go_wp2
      go_ret
      exact ⟨_, rfl, Ho.out, hg⟩
end
end Go.Proofs.Ytfchjoejdijjeaa

/- The law's Box: Load. -/
namespace Go.Proofs.Ytfchjoejdijjeaa
open Go.RowKit Go.Gl Go.Wal Go.Ch Go.Shelf
section
variable {C : Type} (f : C → List UInt8)
/-- A row of commands that was made behind B, its elements too. -/
def OwnC (B : Nat) (w : World) (ov : Value) (l : List C) : Prop := CmdR f (fun x => B ≤ x ∧ x < w.heap.size ∧ ov.ownBlock ≠ some x) w ov l ∧ ∀ g, ov.ownBlock = some g → B ≤ g
variable {f}
theorem ownC_nil (B : Nat) (w : World) : OwnC f B w (.slice none 0 0) [] := ⟨cmdR_nil _ _, fun g h => by cases h⟩
theorem OwnC.push {B : Nat} {w w1 : World} {ov u : Value} {l : List C} {c : C} (h : OwnC f B w ov l) (hg : Grow w w1) (hu : OwnB w.heap.size w1 u (f c)) (hB : B ≤ w.heap.size) (hl : l.length ≤ 1000000000) :
    ∃ v' w', (Builtin.append_ #[32, 32] 32 #[ov, .slice (some ⟨w1.heap.size, 0, none⟩) 1 1]).run Try.prog (w1.alloc (.cells #[u] 28)) = .ok v' w' ∧ OwnC f B w' v' (l ++ [c]) ∧ Below B w w' := by
  have hN : ∀ x, (B ≤ x ∧ x < w1.heap.size ∧ ov.ownBlock ≠ some x) → ov.ownBlock ≠ some x := fun x h => h.2.2
  have hrow : CmdR f (fun x => B ≤ x ∧ x < w1.heap.size ∧ ov.ownBlock ≠ some x) w1 ov l := (h.1.grow hg).mono (fun x hx _ => ⟨hx.1, Nat.lt_of_lt_of_le hx.2.1 hg.size, hx.2.2⟩)
  have hov : ∀ g, ov.ownBlock = some g → g < w.heap.size := fun g hg' => (h.1.lt hg').1
  have hbw : Bw (fun x => B ≤ x ∧ x < w1.heap.size ∧ ov.ownBlock ≠ some x) w1 u (f c) := hu.bw (fun x h1 h2 => ⟨Nat.le_trans hB h1, h2, fun e => by have := hov x e; omega⟩)
  obtain ⟨v2, w2, r1, r2, r3, r4⟩ := CmdR.push hrow hbw hN hl
  refine ⟨v2, w2, r1, ⟨r2.mono (fun x hx hlt => ⟨hx.1, hlt, fun e => ?_⟩), fun g hg' => ?_⟩, ?_⟩
  · rcases r4 with r4 | ⟨g, r4, r5⟩
    · exact hx.2.2 (by rw [← r4]; exact e)
    · rw [e] at r4; cases r4; have := hx.2.1; omega
  · rcases r4 with r4 | ⟨g', r4, r5⟩
    · exact h.2 g (by rw [← r4]; exact hg')
    · rw [hg'] at r4; cases r4; have := hg.size; omega
  · refine Below.trans (hg.mono hB) ⟨r3.os, r3.tape, r3.output, r3.size, fun k hk => r3.block k (by have := hg.size; omega) (fun e => ?_)⟩
    have := h.2 k e.symm; omega

variable {N : Nat → Prop} {w : World} {bb : Nat} {cv : Value} {b : Box C}
def LdInv (f : C → List UInt8) (w : World) (fst : Nat) (l : List C) (ov nv : Value) (wr : World) : Prop :=
  ∃ i : Nat, i ≤ l.length ∧ nv = .int .i64 ((saveD f fst (l.take i)).length : Int) ∧ OwnC f w.heap.size wr ov (l.take i) ∧ Grow w wr

theorem save_drop (fst : Nat) (l : List C) (i : Nat) : (saveD f fst l).drop (saveD f fst (l.take i)).length = comsD f (l.drop i) := by
  have : saveD f fst l = saveD f fst (l.take i) ++ comsD f (l.drop i) := by
    unfold saveD comsD
    rw [List.append_assoc, ← List.flatMap_append, List.take_append_drop]
  rw [this, List.drop_left]

theorem save_len (hf : ∀ c, (f c).length ≤ 1048576) (fst : Nat) {l : List C} (hl : l.length ≤ 100000) : (saveD f fst l).length ≤ 200000000000 := by
  have h1 := numD_len fst
  have h2 := comsD_len hf l
  have h4 := Nat.mul_le_mul_right 1048586 hl
  unfold saveD; rw [List.length_append]; omega

def LoadPost (f : C → List UInt8) (N : Nat → Prop) (w : World) (bb : Nat) (cv : Value) (b : Box C) (fst : Nat) (l : List C) (e : Ending) (w' : World) : Prop :=
  ∃ cv', e = .returned (.int .i64 0) ∧ BxAt f (Nw N w (FB bb cv')) w' bb cv' (b.load fst l) ∧ Sep (FB bb cv) w w' (FB bb cv')

/-- The two stores at the end. -/
theorem load_end (h : BxAt f N w bb cv b) {wr : World} {ov : Value} {l : List C} (ho : OwnC f w.heap.size wr ov l) (hg : Grow w wr) (hl : l.length ≤ 100000) {fst : Nat} (hfst : fst ≤ l.length) :
    BxAt f (Nw N w (FB bb ov)) ((wr.setCell ⟨bb, 0, none⟩ ov).setCell ⟨bb, 1, none⟩ (.int .u64 (fst : Int))) bb ov (b.load fst l) ∧ Sep (FB bb cv) w ((wr.setCell ⟨bb, 0, none⟩ ov).setCell ⟨bb, 1, none⟩ (.int .u64 (fst : Int))) (FB bb ov) := by
  have hbl := h.lt (x := bb) (.inl rfl)
  have hr := hg.heap h.blk
  have hs : Sep (FB bb cv) w ((wr.setCell ⟨bb, 0, none⟩ ov).setCell ⟨bb, 1, none⟩ (.int .u64 (fst : Int))) (FB bb ov) := by
    refine Sep.tgt (((Sep.ofGrow (F := FB bb cv) hg).trans (Sep.set _ _ (.inl rfl) _ _)).trans (Sep.set _ _ (.inl rfl) _ _)) ?_
    rintro x (rfl | hx)
    · exact .inl (.inl rfl)
    · exact .inr (ho.2 x hx)
  have hne : ∀ g, ov.ownBlock = some g → g ≠ bb := fun g hg' e => by have := ho.2 g hg'; omega
  refine ⟨⟨?_, ?_, nw_apart h.apart hs.foot, hl, hfst, h.ep⟩, hs⟩
  · have := setCell_heap (setCell_heap hr 0 ov) 1 (.int .u64 (fst : Int))
    simpa [Box.load] using this
  · refine (ho.1.kp ⟨by simp, fun x hx hxl => ?_⟩ (fun g hg' => ?_)).mono (fun x hx _ => .inr ⟨hx.1, fun hF => ?_⟩)
    · exact (Below.heap_setCell _ _ _ _ (fun e => by have e' : x = bb := e; have := hx.1; omega)).trans (Below.heap_setCell _ _ _ _ (fun e => by have e' : x = bb := e; have := hx.1; omega))
    · exact (Below.heap_setCell _ _ _ _ (fun e => hne g hg' e)).trans (Below.heap_setCell _ _ _ _ (fun e => hne g hg' e))
    · rcases hF with rfl | hF
      · have := hx.1; omega
      · exact hx.2.2 hF

theorem load_full (h : BxAt f N w bb cv b) (hfu : b.full = true) (xv : Value) : Calls Try.prog 91 #[.pointer (some ⟨bb, 0, none⟩), xv] w fun e w' => e = .returned (.int .i64 5) ∧ w' = w := by
  obtain ⟨_, _, _, _, c4⟩ := h.cells
  have hlt := lt_of_getElem? h.blk
  rw [hfu] at c4
  clear h
  go_enter Try.func91, Try.ntmps91
  go_wp2
  go_ret
  exact ⟨rfl, rfl⟩

set_option maxRecDepth 100000 in
set_option maxHeartbeats 4000000 in
theorem load_any (h : BxAt f N w bb cv b) (hf : ∀ c, (f c).length ≤ 1048576) (hfu : b.full = false) {fst : Nat} {l : List C} (hl : l.length ≤ 100000) (hfst : fst ≤ l.length) {xv : Value} (hx : Bv w xv (saveD f fst l)) :
    Calls Try.prog 91 #[.pointer (some ⟨bb, 0, none⟩), xv] w (LoadPost f N w bb cv b fst l) := by
  have hrn : rnD (saveD f fst l) = (fst, (numD fst).length, 0) := by unfold saveD; exact rn_any (by omega) _
  have Hrn := Lib.hid (rreadNumber_ok hx hrn)
  obtain ⟨_, _, _, _, c4⟩ := h.cells
  have hlt := lt_of_getElem? h.blk
  rw [hfu] at c4
  have H := Lib.hid h
  have Hx := Lib.hid hx
  have hsl := save_len hf fst hl
  have Hst : Hid (LdInv f w fst l (.slice none 0 0) (.int .i64 ((numD fst).length : Int)) w) := Lib.hid ⟨0, Nat.zero_le _, by simp [saveD, comsD], ownC_nil _ _, Grow.refl _⟩
  obtain ⟨xa, xc, rfl⟩ := hx.slice
  have hxc : (saveD f fst l).length ≤ xc := by obtain ⟨a', c', e', hc', _⟩ := hx; cases e'; exact hc'
  generalize hSL : (saveD f fst l).length = SL at *
  clear h hx hrn
  go_enter Try.func91, Try.ntmps91
  go_wp2_with fail
  (with_reducible refine Hrn.out.mono ?_)
  rintro e w1 ⟨rfl, hw1⟩
  have hw2 := hw1.symm
  subst hw2
  clear hw1 Hrn
  go_wp2_with fail
  go_loopw [8, 6] (fun ov nv wr => LdInv f w fst l ov nv wr) (fun _ nv _ => SL - (intOf nv).toNat)
  case atStart => exact Hst.out
  case round =>
    obtain ⟨i, hi, rfl, ho, hg⟩ := hrel
    by_cases hlt2 : i < l.length
    · obtain ⟨c, hc⟩ : ∃ c, l[i]? = some c := ⟨l[i], by simp [hlt2]⟩
      have htk : l.take (i + 1) = l.take i ++ [c] := by rw [List.take_succ_eq_append_getElem hlt2]; rw [List.getElem?_eq_getElem hlt2] at hc; cases hc; rfl
      have hdr : l.drop i = c :: l.drop (i + 1) := by rw [List.drop_eq_getElem_cons hlt2]; rw [List.getElem?_eq_getElem hlt2] at hc; cases hc; rfl
      have hsd := save_drop (f := f) fst l i
      have hcd : comsD f (l.drop i) = bytesD (f c) ++ comsD f (l.drop (i + 1)) := by rw [hdr]; simp [comsD]
      have hln : (saveD f fst l).length = (saveD f fst (l.take i)).length + (comsD f (l.drop i)).length := by
        have : saveD f fst l = saveD f fst (l.take i) ++ comsD f (l.drop i) := by
          unfold saveD comsD
          rw [List.append_assoc, ← List.flatMap_append, List.take_append_drop]
        rw [this, List.length_append]
      have hn1 : (saveD f fst (l.take (i + 1))).length = (saveD f fst (l.take i)).length + ((numD (f c).length).length + (f c).length) := by
        rw [htk]; unfold saveD; rw [comsD_snoc]; simp [bytesD]; omega
      have hnp := numF_pos 9 (f c).length
      rw [hcd] at hsd hln
      have hbl : (bytesD (f c)).length = (numD (f c).length).length + (f c).length := by simp [bytesD]
      have hxw := Hx.out.grow hg
      rw [List.length_append, hbl] at hln
      have hfc := hf c
      have hk10 := numD_len (f c).length
      have hnp' : 0 < (numD (f c).length).length := hnp
      rw [← hSL] at hxw
      have hcut := bv_cut hxw (i := (saveD f fst (l.take i)).length) (j := (saveD f fst l).length) (by omega) (Nat.le_refl _)
      have htd : ((saveD f fst l).drop (saveD f fst (l.take i)).length).take ((saveD f fst l).length - (saveD f fst (l.take i)).length) = bytesD (f c) ++ comsD f (l.drop (i + 1)) := by
        rw [hsd, List.take_of_length_le]
        rw [List.length_append, hbl]; omega
      rw [htd] at hcut
      have hrb := rreadBytes_ok hcut (by omega) (by omega)
      rw [hSL] at hln hrb
      generalize hN : (saveD f fst (l.take i)).length = n at *
      generalize hK : (numD (f c).length).length + (f c).length = kk at *
      obtain ⟨ad, had⟩ : ∃ ad, (if xc = n then xa else xa.map (fun x => x.add n)) = ad := ⟨_, rfl⟩
      rw [had] at hrb
      have Hrb := Lib.hid hrb
      have Ho := Lib.hid ho
      have Hg := Lib.hid hg
      have Htk := Lib.hid htk
      have Hn1 := Lib.hid hn1
      have hi1 : decide ((n : Int) < (SL : Int)) = true := by simp; omega
      have hi2 : decide (n < SL) = true := by simp; omega
      have hkp : 0 < kk := by omega
      have hnSL := Lib.hid (show n < SL by omega)
      have hnSL2 : n ≤ SL := by omega
      have hnxc : n ≤ xc := by omega
      have hwa : IntKind.i64.wrap ((n : Int) + (kk : Int)) = (n : Int) + (kk : Int) := IntWalk.i64_in _ (by omega)
      obtain ⟨oa, oc, rfl⟩ := ho.1.slice
      clear ho hg hrb hxw hcut htd hcd hsd hdr htk hc hn1 hln hN hK hbl
      go_wp2_with fail
      (with_reducible refine Hrb.out.mono ?_)
      rintro e w1 ⟨vx, rfl, hvx, hw1⟩
      have hw2 := hw1.symm
      subst hw2
      clear hw1 Hrb
      obtain ⟨u, w1, h1, h2, h3⟩ := fresh_copy hvx (by omega)
      obtain ⟨v2, w2, r1, r2, r3⟩ := Ho.out.push h3 h2 (Hg.out.size) (by simp; omega)
      have Hr1 := Lib.hid h1
      have Hr2 := Lib.hid r1
      have Hrel : Hid (LdInv f w fst l v2 (.int .i64 ((n : Int) + (kk : Int))) w2) := Lib.hid ⟨i + 1, hlt2, by rw [Hn1.out]; simp, by rw [Htk.out]; exact r2, Below.trans Hg.out r3⟩
      have hlen : (l.take i).length = i := by simp; omega
      rw [hlen] at Hr2
      obtain ⟨qa, qc, rfl⟩ := hvx.slice
      obtain ⟨ua, uc, rfl⟩ := h2.slice
      clear h1 h2 h3 r1 r2 r3 hvx Hn1 Htk Ho Hg hlen
      go_wp2_with (at_builtin; first | (refine wpList_append rfl rfl rfl rfl Hr1.out ?_) | (refine wpList_append rfl rfl rfl rfl Hr2.out ?_))
      go_roundw
      case rel => exact Hrel.out
      case measure => have := hnSL.out; simp [intOf]; omega
    · obtain rfl : i = l.length := by omega
      rw [List.take_length] at ho
      obtain ⟨oa, oc, rfl⟩ := ho.1.slice
      have hn : (saveD f fst (l.take l.length)).length = SL := by rw [List.take_length]; exact hSL
      obtain ⟨he1, he2⟩ := load_end H.out ho hg hl hfst
      have He : Hid (LoadPost f N w bb cv b fst l (.returned (.int .i64 0)) ((wr.setCell ⟨bb, 0, none⟩ (.slice oa l.length oc)).setCell ⟨bb, 1, none⟩ (.int .u64 (fst : Int)))) := Lib.hid ⟨_, rfl, he1, he2⟩
      have hb1 := hg.heap H.out.blk
      have k0 : wr.cell? ⟨bb, 0, none⟩ = some cv := by simp [World.cell?, hb1]
      have k1 : wr.cell? ⟨bb, 1, none⟩ = some (.int .u64 (b.first : Int)) := by simp [World.cell?, hb1]
      have f0 := frz hb1 0
      have f1 := frz hb1 1
      have hbl : bb < wr.heap.size := lt_of_getElem? hb1
      have hw0 : IntKind.u64.wrap (l.length : Int) = (l.length : Int) := by simp [IntKind.wrap, IntKind.bits, IntKind.signed]; omega
      have e1 : decide (l.length < fst) = false := by simp; omega
      have hs1 : decide ((SL : Int) < (SL : Int)) = false := by simp
      rw [hn]
      clear ho hg he1 he2 hb1 hn
      go_wp2
      go_ret
      exact He.out
end
end Go.Proofs.Ytfchjoejdijjeaa
