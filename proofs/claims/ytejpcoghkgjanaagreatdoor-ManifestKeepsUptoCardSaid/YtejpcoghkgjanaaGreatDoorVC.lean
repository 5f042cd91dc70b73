/- Merged out of C7, C8: helpers. -/
import Derived.Test.YtejpcoghkgjanaaGreatDoorVB
import Derived.Deep.CutRange
import Derived.Deep.DeepCutAuto
/- codec.frame. -/
namespace Go.Proofs.YtejpcoghkgjanaaGreatDoor
open Go.RowKit Go.Gl Go.Wal

theorem rn_le : ∀ (r : List UInt8) (i v : Nat), (rnF i v r).2.1 ≤ i + r.length
  | [], i, v => by simp [rnF]
  | c :: r, i, v => by
    unfold rnF
    split
    · simp
    · split
      · split
        · simp
        · simp
      · have := rn_le r (i + 1) (v + (c.toNat - 128) * 128 ^ i); simp at this ⊢; omega

theorem bv_cut {w : World} {a : Option Addr} {c : Nat} {l : List UInt8} (h : Bv w (.slice a l.length c) l) {i j : Nat} (hij : i ≤ j) (hj : j ≤ l.length) : Bv w (.slice (if c = i then a else a.map (fun x => x.add i)) (j - i) (c - i)) ((l.drop i).take (j - i)) := by
  obtain ⟨a', c', he, hlc, hm, hn, h⟩ := h
  cases he
  have hlen : ((l.drop i).take (j - i)).length = j - i := by simp; omega
  refine ⟨_, c - i, by rw [hlen], by rw [hlen]; omega, by omega, ?_, ?_⟩
  · intro h0
    split at h0
    · omega
    · cases a with
      | none => have := hn rfl; omega
      | some x => cases h0
  · by_cases hz : (l.drop i).take (j - i) = []
    · exact .inl hz
    · right
      have hlt : i < j := by
        rcases Nat.lt_or_ge i j with h1 | h1
        · exact h1
        · exfalso; apply hz; rw [show j - i = 0 by omega]; simp
      rcases h with rfl | ⟨b, o, rfl, hb, hc⟩
      · simp at hj; omega
      · rw [if_neg (by omega)]
        refine ⟨b, o + i, by show some (Addr.add ⟨b, o, none⟩ i) = _; rw [Addr.add_lit], hb, fun q k hk => ?_⟩
        rw [List.getElem?_take] at hk
        split at hk
        · rw [List.getElem?_drop] at hk
          have := hc (i + q) k hk
          rw [Nat.add_assoc]
          exact this
        · cases hk

def S10 (ba : Option Addr) (bc len : Nat) (at' fr tt : Nat) (A P : List UInt8) (i : Nat) (v : Value) (W : World) : Prop :=
  match i with
  | 0 => v = .slice ba len bc
  | 1 => v = .int .i64 at'
  | 2 => v = .int .i64 fr
  | 3 => Bv W v A
  | 4 => v = .slice ba len bc
  | 5 => v = .int .i64 fr
  | 6 => v = .int .i64 tt
  | 7 => Bv W v P
  | 8 => ∃ b pv, v = .slice (some ⟨b, 0, none⟩) 1 1 ∧ W.heap[b]? = some (.cells #[pv] 69 (0, 0)) ∧ Bv W pv P
  | 9 => v = .int .u32 ((sumD crcTab P : Nat) : Int)
  | 10 => v = .int .u64 ((sumD crcTab P : Nat) : Int)
  | 11 => Bv W v (lowD 4 (sumD crcTab P))
  | 12 => v = .bool (decide (A = lowD 4 (sumD crcTab P)))
  | 13 => v = .bool (!decide (A = lowD 4 (sumD crcTab P)))
  | _ => True
theorem S10.keep {ba : Option Addr} {bc len at' fr tt : Nat} {A P : List UInt8} : ∀ (j : Nat) (v : Value) (W W' : World), Grow W W' → S10 ba bc len at' fr tt A P j v W → S10 ba bc len at' fr tt A P j v W' := by
  intro j v W W' hR h
  unfold S10 at h
  split at h <;> first
    | exact h
    | exact Bv.grow h hR
    | (obtain ⟨b, pv, hv, hc, hp⟩ := h; exact ⟨b, pv, hv, hR.heap hc, hp.grow hR⟩)
    | (unfold S10; split <;> first | trivial | (exfalso; simp_all))

set_option maxRecDepth 100000 in
set_option maxHeartbeats 4000000 in
theorem codec_frame {w : World} {bv : Value} {l : List UInt8} (h : Bv w bv l) (hl : l.length ≤ 1000000000000) :
    Calls Tryz.prog 66 #[bv] w fun e w' => e = .returned (.tuple #[.int .i64 ((frD crcTab l).1 : Nat), .int .i64 ((frD crcTab l).2.1 : Nat), .int .i64 ((frD crcTab l).2.2 : Nat)]) ∧ Grow w w' := by
  have hrn := readNumber_any h
  obtain ⟨ba, bc, rfl⟩ := h.slice
  have H := Lib.hid h
  have Hrn := Lib.hid hrn
  clear h hrn
  go_enter Tryz.func66, Tryz.ntmps66
  go_wp2_with fail
  (with_reducible refine Hrn.out.mono ?_)
  rintro e w1 ⟨rfl, hw1⟩
  have hw2 := hw1.symm
  subst hw2
  clear hw1 Hrn
  have Hdef : Hid (frD crcTab l = _) := Lib.hid (by unfold frD; rfl)
  generalize hr : rnD l = r at *
  have hat := rn_le l 0 0
  rw [show rnF 0 0 l = r from hr] at hat
  obtain ⟨n, at', e⟩ := r
  dsimp only at Hdef hat ⊢
  clear hr
  by_cases h1 : e ≠ 0
  · rw [if_pos h1] at Hdef
    have e1 : ((e : Int) != 0) = true := by simp; omega
    have e2 : e ≠ 0 := h1
    clear h1
    go_wp2
    go_ret3
    rw [Hdef.out]
    exact ⟨rfl, Grow.refl _⟩
  rw [if_neg h1] at Hdef
  have e1 : ((e : Int) != 0) = false := by simp; omega
  obtain rfl : e = 0 := by omega
  clear h1
  by_cases h2 : 67108864 < n
  · rw [if_pos h2] at Hdef
    have e2 : decide ((67108864 : Int) < (n : Int)) = true := by simp; omega
    go_wp2
    go_ret3
    rw [Hdef.out]
    exact ⟨rfl, Grow.refl _⟩
  rw [if_neg h2] at Hdef
  have e2 : decide ((67108864 : Int) < (n : Int)) = false := by simp; omega
  by_cases h3 : l.length < at' + (n + 4)
  · rw [if_pos h3] at Hdef
    have e3 : decide ((l.length : Int) - (at' : Int) < (n : Int) + 4) = true := by simp; omega
    go_wp2
    go_ret3
    rw [Hdef.out]
    exact ⟨rfl, Grow.refl _⟩
  rw [if_neg h3] at Hdef
  have e3 : decide ((l.length : Int) - (at' : Int) < (n : Int) + 4) = false := by simp; omega
  have hbc : l.length ≤ bc := by obtain ⟨_, _, he, hlc, _⟩ := H.out; cases he; exact hlc
  generalize hPd : (l.drop (at' + 4)).take n = P at *
  generalize hAd : (l.drop at').take 4 = A at *
  have HP := Lib.hid hPd
  have HA := Lib.hid hAd
  clear hPd hAd
  go_upto_region 10 with fail
  obtain ⟨fr, hfr⟩ : ∃ fr : Nat, fr = at' + 4 := ⟨_, rfl⟩
  obtain ⟨tt, hto⟩ : ∃ tt : Nat, tt = fr + n := ⟨_, rfl⟩
  rw [show ((at' : Int) + 4) = (fr : Int) by omega]
  rw [show ((fr : Int) + (n : Int)) = (tt : Int) by omega]
  rw [← hfr] at HP Hdef
  rw [← hto] at Hdef
  have b1 : at' ≤ fr := by omega
  have b2 : fr ≤ tt := by omega
  have b3 : tt ≤ l.length := by omega
  have Hfr := Lib.hid hfr
  have Htt := Lib.hid hto
  clear hfr hto h3
  go_cut [48] from 35 to 48 (fun c wx => c = .bool (!decide (A = lowD 4 (sumD crcTab P))) ∧ Grow w wx)
  case first =>
    rename_i J K hJ hK
    refine wp_frame (fun a0 ha0 => ?_)
    have F0 : a0.tmps[0]? = some (.slice ba l.length bc) := by rw [ha0]; rfl
    have F2 : a0.tmps[2]? = some (.int .i64 fr) := by rw [ha0]; rfl
    have F3 : a0.tmps[3]? = some (.int .i64 tt) := by rw [ha0]; rfl
    have F6 : a0.tmps[6]? = some (.int .i64 at') := by rw [ha0]; rfl
    have hsz : a0.tmps.size = 51 := by rw [ha0]; rfl
    have Hrest : Hid (∀ a1 wx, FrameBut [35, 36, 37, 38, 39, 40, 41, 42, 43, 44, 45, 46, 47, 48] a0 a1 → a1.tmps[48]? = some (.bool (!decide (A = lowD 4 (sumD crcTab P)))) → Grow w wx → K a1 wx) := Lib.hid (fun a1 wx ha h48 r0 => by
      refine hK _ _ (hJ _ _ ?_)
      refine ⟨a1.tmps.getD 35 undef, a1.tmps.getD 36 undef, a1.tmps.getD 37 undef, a1.tmps.getD 38 undef, a1.tmps.getD 39 undef, a1.tmps.getD 40 undef, a1.tmps.getD 41 undef, a1.tmps.getD 42 undef, a1.tmps.getD 43 undef, a1.tmps.getD 44 undef, a1.tmps.getD 45 undef, a1.tmps.getD 46 undef, a1.tmps.getD 47 undef, a1.tmps.getD 48 undef, ⟨by rw [Array.getD_eq_getD_getElem?, h48]; rfl, r0⟩, ha.fill.trans ?_⟩
      subst ha0
      kernel_rfl)
    clear ha0 hK hJ e1 e2 e3
    refine wp_region_flow (S10 ba bc l.length at' fr tt A P) (fun _ _ W => Below w.heap.size w W) Grow [35, 36, 37, 38, 39, 40, 41, 42, 43, 44, 45, 46, 47, 48] (by kernel_rfl) (by kernel_rfl) (by rw [hsz]; rfl) S10.keep (Grow.drew _) ?_ (fun a1 W hf => ?_)
    rotate_left
    · obtain ⟨v48, hv48, hq48⟩ := hf.slot 13 48 (by rfl) (by rfl)
      have hq48' : v48 = _ := hq48
      rw [hq48'] at hv48
      exact Hrest.out a1 W hf.alike hv48 hf.world
    clear Hrest
    refine ⟨?_, ?_, ?_, ?_, ?_, ?_, ?_, ?_, ?_, ?_, ?_, ?_, ?_, ?_, True.intro⟩
    · intro listed a W hf hun haf
      have hs1 : a.tmps.size = 51 := hf.alike.size.trans hsz
      have G0 : a.tmps[0]'(by rw [hs1]; decide) = .slice ba l.length bc := tmp_get ((hf.alike.same 0 (by decide)).trans F0) _
      refine wpOp_act rfl (by rfl) (fun K' hK' => ?_)
      go_simp
      exact hK' _ _ ⟨_, rfl, (fun _ _ => rfl), Grow.refl _, hf.world⟩
    · intro listed a W hf hun haf
      have hs1 : a.tmps.size = 51 := hf.alike.size.trans hsz
      have G6 : a.tmps[6]'(by rw [hs1]; decide) = .int .i64 at' := tmp_get ((hf.alike.same 6 (by decide)).trans F6) _
      refine wpOp_act rfl (by rfl) (fun K' hK' => ?_)
      go_simp
      exact hK' _ _ ⟨_, rfl, (fun _ _ => rfl), Grow.refl _, hf.world⟩
    · intro listed a W hf hun haf
      have hs1 : a.tmps.size = 51 := hf.alike.size.trans hsz
      have G2 : a.tmps[2]'(by rw [hs1]; decide) = .int .i64 fr := tmp_get ((hf.alike.same 2 (by decide)).trans F2) _
      refine wpOp_act rfl (by rfl) (fun K' hK' => ?_)
      go_simp
      exact hK' _ _ ⟨_, rfl, (fun _ _ => rfl), Grow.refl _, hf.world⟩
    · intro listed a W hf hun haf
      have hs1 : a.tmps.size = 51 := hf.alike.size.trans hsz
      have hB : Below w.heap.size w W := hf.world
      obtain ⟨v0, s0, q0⟩ := hf.slot 0 35 rfl (after_listed haf 0 (by kernel_rfl))
      have q0' : v0 = _ := q0
      subst q0'
      have G35 := tmp_get s0 (by rw [hs1]; decide)
      obtain ⟨v1, s1, q1⟩ := hf.slot 1 36 rfl (after_listed haf 1 (by kernel_rfl))
      have q1' : v1 = _ := q1
      subst q1'
      have G36 := tmp_get s1 (by rw [hs1]; decide)
      obtain ⟨v2, s2, q2⟩ := hf.slot 2 37 rfl (after_listed haf 2 (by kernel_rfl))
      have q2' : v2 = _ := q2
      subst q2'
      have G37 := tmp_get s2 (by rw [hs1]; decide)
      have c1 : fr ≤ bc := by omega
      have c2 : at' ≤ fr := by omega
      refine wpOp_act rfl (by rfl) (fun K' hK' => ?_)
      go_simp
      exact hK' _ _ ⟨_, rfl, (fun _ _ => by have := bv_cut (H.out.grow hB) (i := at') (j := fr) (by omega) (by omega); rw [show fr - at' = 4 by (have := Hfr.out; omega), HA.out] at this; rw [show fr - at' = 4 by (have := Hfr.out; omega)]; exact this), Grow.refl _, hf.world⟩
    · intro listed a W hf hun haf
      have hs1 : a.tmps.size = 51 := hf.alike.size.trans hsz
      have G0 : a.tmps[0]'(by rw [hs1]; decide) = .slice ba l.length bc := tmp_get ((hf.alike.same 0 (by decide)).trans F0) _
      refine wpOp_act rfl (by rfl) (fun K' hK' => ?_)
      go_simp
      exact hK' _ _ ⟨_, rfl, (fun _ _ => rfl), Grow.refl _, hf.world⟩
    · intro listed a W hf hun haf
      have hs1 : a.tmps.size = 51 := hf.alike.size.trans hsz
      have G2 : a.tmps[2]'(by rw [hs1]; decide) = .int .i64 fr := tmp_get ((hf.alike.same 2 (by decide)).trans F2) _
      refine wpOp_act rfl (by rfl) (fun K' hK' => ?_)
      go_simp
      exact hK' _ _ ⟨_, rfl, (fun _ _ => rfl), Grow.refl _, hf.world⟩
    · intro listed a W hf hun haf
      have hs1 : a.tmps.size = 51 := hf.alike.size.trans hsz
      have G3 : a.tmps[3]'(by rw [hs1]; decide) = .int .i64 tt := tmp_get ((hf.alike.same 3 (by decide)).trans F3) _
      refine wpOp_act rfl (by rfl) (fun K' hK' => ?_)
      go_simp
      exact hK' _ _ ⟨_, rfl, (fun _ _ => rfl), Grow.refl _, hf.world⟩
    · intro listed a W hf hun haf
      have hs1 : a.tmps.size = 51 := hf.alike.size.trans hsz
      have hB : Below w.heap.size w W := hf.world
      obtain ⟨v4, s4, q4⟩ := hf.slot 4 39 rfl (after_listed haf 4 (by kernel_rfl))
      have q4' : v4 = _ := q4
      subst q4'
      have G39 := tmp_get s4 (by rw [hs1]; decide)
      obtain ⟨v5, s5, q5⟩ := hf.slot 5 40 rfl (after_listed haf 5 (by kernel_rfl))
      have q5' : v5 = _ := q5
      subst q5'
      have G40 := tmp_get s5 (by rw [hs1]; decide)
      obtain ⟨v6, s6, q6⟩ := hf.slot 6 41 rfl (after_listed haf 6 (by kernel_rfl))
      have q6' : v6 = _ := q6
      subst q6'
      have G41 := tmp_get s6 (by rw [hs1]; decide)
      have c1 : tt ≤ bc := by omega
      have c2 : fr ≤ tt := by omega
      refine wpOp_act rfl (by rfl) (fun K' hK' => ?_)
      go_simp
      exact hK' _ _ ⟨_, rfl, (fun _ _ => by have := bv_cut (H.out.grow hB) (i := fr) (j := tt) (by omega) (by omega); rw [show tt - fr = n by (have := Htt.out; omega), HP.out] at this; rw [show tt - fr = n by (have := Htt.out; omega)]; exact this), Grow.refl _, hf.world⟩
    · intro listed a W hf hun haf
      have hs1 : a.tmps.size = 51 := hf.alike.size.trans hsz
      have hB : Below w.heap.size w W := hf.world
      obtain ⟨v7, s7, q7⟩ := hf.slot 7 42 rfl (after_listed haf 7 (by kernel_rfl))
      have G42 := tmp_get s7 (by rw [hs1]; decide)
      obtain ⟨xa, xc, rfl⟩ := Bv.slice q7
      refine wpOp_act rfl (by rfl) (fun K' hK' => ?_)
      go_simp
      exact hK' _ (W.alloc (.cells #[.slice xa P.length xc] 69)) ⟨_, rfl, (fun _ _ => ⟨W.heap.size, _, rfl, heap_alloc_new _ _, Bv.grow q7 (Grow.alloc _ _)⟩), (Grow.alloc _ _), hB.trans ((Grow.alloc _ _).mono hB.size)⟩
    · intro listed a W hf hun haf
      have hs1 : a.tmps.size = 51 := hf.alike.size.trans hsz
      have hB : Below w.heap.size w W := hf.world
      obtain ⟨v8, s8, q8⟩ := hf.slot 8 43 rfl (after_listed haf 8 (by kernel_rfl))
      obtain ⟨b8, p8, q8, c8, d8⟩ := q8
      have q8' : v8 = _ := q8
      subst q8'
      have G43 := tmp_get s8 (by rw [hs1]; decide)
      refine wpOp_call rfl (by rfl) (by go_simp) (sum_any c8 d8) ?_
      rintro e w7 ⟨rfl, hg7⟩
      exact ⟨_, rfl, _, rfl, (fun _ _ => rfl), hg7, hB.trans (hg7.mono hB.size)⟩
    · intro listed a W hf hun haf
      have hs1 : a.tmps.size = 51 := hf.alike.size.trans hsz
      have hB : Below w.heap.size w W := hf.world
      obtain ⟨v9, s9, q9⟩ := hf.slot 9 44 rfl (after_listed haf 9 (by kernel_rfl))
      have q9' : v9 = _ := q9
      subst q9'
      have G44 := tmp_get s9 (by rw [hs1]; decide)
      have hwr : IntKind.u64.wrap ((sumD crcTab P : Nat) : Int) = ((sumD crcTab P : Nat) : Int) := by have := sumD_lt P; simp [IntKind.wrap, IntKind.bits, IntKind.signed]; omega
      refine wpOp_act rfl (by rfl) (fun K' hK' => ?_)
      go_simp
      exact hK' _ _ ⟨_, rfl, (fun _ _ => rfl), Grow.refl _, hf.world⟩
    · intro listed a W hf hun haf
      have hs1 : a.tmps.size = 51 := hf.alike.size.trans hsz
      have hB : Below w.heap.size w W := hf.world
      obtain ⟨v10, s10, q10⟩ := hf.slot 10 45 rfl (after_listed haf 10 (by kernel_rfl))
      have q10' : v10 = _ := q10
      subst q10'
      have G45 := tmp_get s10 (by rw [hs1]; decide)
      refine wpOp_call rfl (by rfl) (by go_simp) (low_any (B := W.heap.size) (l := []) (row1_nil _ _ W) (Nat.le_refl _) (by simp) _ (sumD_lt P)) ?_
      rintro e w7 ⟨v7, rfl, ho7, hg7⟩
      exact ⟨_, rfl, _, rfl, (fun _ _ => ownB_bv ho7), hg7, hB.trans (hg7.mono hB.size)⟩
    · intro listed a W hf hun haf
      have hs1 : a.tmps.size = 51 := hf.alike.size.trans hsz
      have hB : Below w.heap.size w W := hf.world
      obtain ⟨v3, s3, q3⟩ := hf.slot 3 38 rfl (after_listed haf 3 (by kernel_rfl))
      have G38 := tmp_get s3 (by rw [hs1]; decide)
      obtain ⟨v11, s11, q11⟩ := hf.slot 11 46 rfl (after_listed haf 11 (by kernel_rfl))
      have G46 := tmp_get s11 (by rw [hs1]; decide)
      have q3b : Bv W v3 A := q3
      have q11b : Bv W v11 (lowD 4 (sumD crcTab P)) := q11
      refine wpOp_call rfl (by rfl) (by go_simp) (equal_any q3b q11b) ?_
      rintro e w7 ⟨rfl, hg7⟩
      exact ⟨_, rfl, _, rfl, (fun _ _ => rfl), hg7, hB.trans (hg7.mono hB.size)⟩
    · intro listed a W hf hun haf
      have hs1 : a.tmps.size = 51 := hf.alike.size.trans hsz
      have hB : Below w.heap.size w W := hf.world
      obtain ⟨v12, s12, q12⟩ := hf.slot 12 47 rfl (after_listed haf 12 (by kernel_rfl))
      have q12' : v12 = _ := q12
      subst q12'
      have G47 := tmp_get s12 (by rw [hs1]; decide)
      refine wpOp_act rfl (by rfl) (fun K' hK' => ?_)
      go_simp
      exact hK' _ _ ⟨_, rfl, (fun _ _ => rfl), Grow.refl _, hf.world⟩
  case rest =>
    obtain ⟨rfl, hg⟩ := hcut
    by_cases h4 : A = lowD 4 (sumD crcTab P)
    · rw [if_neg (by simpa using h4)] at Hdef
      have e4 : decide (A = lowD 4 (sumD crcTab P)) = true := by simpa using h4
      rw [e4]
      clear h4 e4
      go_wp2
      go_ret3
      rw [Hdef.out]
      exact ⟨rfl, hg⟩
    · rw [if_pos h4] at Hdef
      have e4 : decide (A = lowD 4 (sumD crcTab P)) = false := by simpa using h4
      rw [e4]
      clear h4 e4
      go_wp2
      go_ret3
      rw [Hdef.out]
      exact ⟨rfl, hg⟩
end Go.Proofs.YtejpcoghkgjanaaGreatDoor

/- codec.ReadFrames. -/
namespace Go.Proofs.YtejpcoghkgjanaaGreatDoor
open Go.RowKit Go.Gl Go.Wal

/-- A row of payloads of one's own, each with bytes of its own. -/
def OwnR (B : Nat) (w : World) (v : Value) (ps : List (List UInt8)) : Prop :=
  ∃ vals, Row1 69 B w v vals ∧ vals.length = ps.length ∧ ∀ (i : Nat) (u : Value) (p : List UInt8), vals[i]? = some u → ps[i]? = some p → OwnB B w u p

theorem ownR_nil (B : Nat) (w : World) : OwnR B w (.slice none 0 0) [] := ⟨[], row1_nil _ _ _, rfl, fun i u p h => by simp at h⟩
theorem OwnR.slice {B : Nat} {w : World} {v : Value} {ps : List (List UInt8)} (h : OwnR B w v ps) : ∃ a c, v = .slice a ps.length c := by
  obtain ⟨vals, h1, h2, _⟩ := h
  obtain ⟨a, c, h3⟩ := h1.slice
  exact ⟨a, c, by rw [h3, h2]⟩
theorem OwnR.grow {B : Nat} {w w' : World} {v : Value} {ps : List (List UInt8)} (h : OwnR B w v ps) (hg : Grow w w') : OwnR B w' v ps := by
  obtain ⟨vals, h1, h2, h3⟩ := h
  exact ⟨vals, h1.grow hg, h2, fun i u p hu hp => (h3 i u p hu hp).grow hg⟩
theorem OwnR.mono {B B' : Nat} {w : World} {v : Value} {ps : List (List UInt8)} (h : OwnR B w v ps) (hB : B' ≤ B) : OwnR B' w v ps := by
  obtain ⟨vals, h1, h2, h3⟩ := h
  exact ⟨vals, h1.mono hB, h2, fun i u p hu hp => (h3 i u p hu hp).mono hB⟩

theorem OwnR.rv {B : Nat} {w : World} {v : Value} {ps : List (List UInt8)} (h : OwnR B w v ps) : Rv w v ps := by
  obtain ⟨vals, h1, h2, h3⟩ := h
  rcases h1 with ⟨rfl, rfl⟩ | ⟨g, cap, cur, rfl, hB, hg, hn, hc, hm, ht⟩
  · have : ps = [] := List.eq_nil_of_length_eq_zero h2.symm
    subst this
    exact ⟨none, 0, rfl, .inl rfl⟩
  · have hrow : Row1 69 B w (.slice (some ⟨g, 0, none⟩) vals.length cap) vals := .inr ⟨g, cap, cur, rfl, hB, hg, hn, hc, hm, ht⟩
    refine ⟨some ⟨g, 0, none⟩, cap, by rw [h2], .inr ⟨g, 0, rfl, lt_of_getElem? hg, fun j p hp => ?_⟩⟩
    obtain ⟨u, hu⟩ : ∃ u, vals[j]? = some u := by
      have := (List.getElem?_eq_some_iff.1 hp).1
      exact ⟨vals[j]'(by omega), by simp [show j < vals.length by omega]⟩
    exact ⟨u, by rw [Nat.zero_add]; exact hrow.cells rfl hu, ownB_bv (h3 j u p hu hp)⟩

theorem OwnB.oneCell {B : Nat} {w : World} {v : Value} {l : List UInt8} (h : OwnB B w v l) : v.oneCell' = true := by
  obtain ⟨a, c, rfl⟩ := h.slice
  rfl

/-- 'append(rows, p)' of a row of bytes of its own. -/
theorem append_own {B : Nat} {w : World} {v u : Value} {ps : List (List UInt8)} {p : List UInt8} (h : OwnR B w v ps) (hu : OwnB B w u p) (hB : B ≤ w.heap.size) (hlen : ps.length + 1 ≤ 1000000000000) :
    ∃ v' w', (Builtin.append_ #[83, 83] 83 #[v, .slice (some ⟨w.heap.size, 0, none⟩) 1 1]).run Tryz.prog (w.alloc (.cells #[u] 69)) = .ok v' w' ∧ OwnR B w' v' (ps ++ [p]) ∧ Below B w w' := by
  obtain ⟨vals, h1, h2, h3⟩ := h
  have hga : Grow w (w.alloc (.cells #[u] 69)) := Grow.alloc _ _
  have hsrc : Src Tryz.prog 1 83 (.slice (some ⟨w.heap.size, 0, none⟩) 1 1) 1 [u] (w.alloc (.cells #[u] 69)) :=
    Src.ofSlice _ Tryz.underlying83 _ _ _ _ rfl (cell_one_new w u _) (fun x hx => by rw [List.mem_singleton.1 hx]; exact hu.oneCell)
  obtain ⟨v', w', r1, r2, r3, r4⟩ := run_append_row (ty := 83) Tryz.underlying83 Tryz.infoR rfl (h1.grow hga) hsrc (by simp; omega) (by rw [h2]; unfold maxLen; omega) (by rw [h2]; omega)
  have hne : ∀ b x q, OwnB B w x q → x.ownBlock = some b → w'.heap[b]? = w.heap[b]? := fun b x q hx hb => by
    have hx' : OwnB B (w.alloc (.cells #[u] 69)) x q := hx.grow hga
    obtain ⟨cur, hc⟩ := hx'.block hb
    rw [r3.block b (lt_of_getElem? hc) (fun he => (h1.grow hga).apart hc (by decide) he.symm)]
    exact hga.block b (hx.lt hb).2
  refine ⟨v', w', r1, ⟨vals ++ [u], r2, by simp [h2], fun i x q hx hq => ?_⟩, below_grown (hga.mono hB) (by simp; omega) (h1.grow hga) r3⟩
  by_cases hi : i < vals.length
  · rw [List.getElem?_append_left hi] at hx
    rw [List.getElem?_append_left (by omega)] at hq
    exact (h3 i x q hx hq).keep (fun b hb => hne b x q (h3 i x q hx hq) hb)
  · have hiv : i = vals.length := by
      have := (List.getElem?_eq_some_iff.1 hx).1
      simp at this; omega
    subst hiv
    simp at hx
    rw [h2] at hq
    simp at hq
    subst hx hq
    exact hu.keep (fun b hb => hne b u p hu hb)

theorem fr_le (T : List Nat) (b : List UInt8) (h : (frD T b).2.2 = 0) : 0 < (frD T b).2.1 ∧ (frD T b).1 ≤ (frD T b).2.1 ∧ (frD T b).2.1 ≤ b.length := by
  unfold frD at h ⊢
  split
  · rename_i h1; rw [if_pos h1] at h; exact absurd h h1
  · rename_i h1
    rw [if_neg h1] at h
    split
    · rename_i h2; rw [if_pos h2] at h; cases h
    · rename_i h2
      rw [if_neg h2] at h
      split
      · rename_i h3; rw [if_pos h3] at h; cases h
      · rename_i h3
        rw [if_neg h3] at h
        split
        · rename_i h4; rw [if_pos h4] at h; cases h
        · simp; omega

def RfInv (w : World) (l : List UInt8) (ov av : Value) (wr : World) : Prop :=
  ∃ (k at' : Nat) (ps : List (List UInt8)), av = .int .i64 at' ∧ at' ≤ l.length ∧ OwnR w.heap.size wr ov ps ∧ ps.length ≤ at' ∧ (l.drop at').length < k ∧ rfD crcTab l = (ps ++ (rfF crcTab k (l.drop at')).1, at' + (rfF crcTab k (l.drop at')).2.1, (rfF crcTab k (l.drop at')).2.2) ∧ Grow w wr

set_option maxRecDepth 100000 in
set_option maxHeartbeats 4000000 in
theorem readFrames_any {w : World} {bv : Value} {l : List UInt8} (h : Bv w bv l) (hl : l.length ≤ 900000000000) :
    Calls Tryz.prog 35 #[bv] w fun e w' => ∃ rv, e = .returned (.tuple #[rv, .int .i64 ((rfD crcTab l).2.1 : Nat), .int .i64 ((rfD crcTab l).2.2 : Nat)]) ∧ OwnR w.heap.size w' rv (rfD crcTab l).1 ∧ Grow w w' := by
  obtain ⟨ba, bc, rfl⟩ := h.slice
  have hbc : l.length ≤ bc := by obtain ⟨_, _, he, hlc, _⟩ := h; cases he; exact hlc
  have H := Lib.hid h
  clear h
  go_enter Tryz.func35, Tryz.ntmps35
  go_wp2_with fail
  go_loopw [5, 6] (fun ov av wr => RfInv w l ov av wr) (fun _ av _ => l.length - (intOf av).toNat)
  case atStart => exact ⟨l.length + 1, 0, [], rfl, Nat.zero_le _, ownR_nil _ _, Nat.le_refl _, by simp, by simp [rfD], Grow.refl _⟩
  case round =>
    obtain ⟨k, at', ps, rfl, hat, hown, hpl, hk, hrf, hg⟩ := hrel
    obtain ⟨k, rfl⟩ : ∃ k', k = k' + 1 := ⟨k - 1, by omega⟩
    rw [rfF] at hrf
    by_cases hlt : at' < l.length
    · have hne : ¬ l.drop at' = [] := by intro h0; have := congrArg List.length h0; simp at this; omega
      rw [if_neg hne] at hrf
      have hcut := bv_cut (H.out.grow hg) (i := at') (j := l.length) (by omega) (Nat.le_refl _)
      rw [show (l.drop at').take (l.length - at') = l.drop at' from List.take_of_length_le (by simp), if_neg (by omega)] at hcut
      have hfr := codec_frame hcut (by simp; omega)
      have hle := fr_le crcTab (l.drop at')
      have hlen : (l.drop at').length = l.length - at' := by simp
      have hi1 : (at' : Int) < (l.length : Int) := by omega
      have c1 : at' ≤ bc := by omega
      have Hfr := Lib.hid hfr
      have Hrf := Lib.hid hrf
      have Hown := Lib.hid hown
      have Hg := Lib.hid hg
      obtain ⟨oa, oc, rfl⟩ := hown.slice
      clear hcut hfr hrf hown hg hne
      go_wp2_with fail
      (with_reducible refine Hfr.out.mono ?_)
      rintro e w2 ⟨rfl, hg2⟩
      generalize frD crcTab (l.drop at') = R at *
      obtain ⟨fr, tt, er⟩ := R
      dsimp only at hle Hrf ⊢
      by_cases her : er = 0
      · subst her
        obtain ⟨ht0, hft, htl⟩ := hle rfl
        rw [if_neg (by simp)] at Hrf
        obtain ⟨i1, hi1d⟩ : ∃ i : Nat, i = at' + fr := ⟨_, rfl⟩
        obtain ⟨j1, hj1d⟩ : ∃ j : Nat, j = at' + tt := ⟨_, rfl⟩
        have s1 : (at' : Int) + (fr : Int) = (i1 : Int) := by omega
        have s2 : (at' : Int) + (tt : Int) = (j1 : Int) := by omega
        have hg3 := Hg.out.trans hg2
        have hcut := bv_cut (H.out.grow hg3) (i := i1) (j := j1) (by omega) (by omega)
        have hP : (l.drop i1).take (j1 - i1) = ((l.drop at').drop fr).take (tt - fr) := by rw [List.drop_drop, hi1d, hj1d, show at' + tt - (at' + fr) = tt - fr by omega]
        rw [hP] at hcut
        have hnext : l.drop j1 = (l.drop at').drop tt := by rw [List.drop_drop, hj1d]
        have hpl2 : (((l.drop at').drop fr).take (tt - fr)).length ≤ 900000000000 := by simp; omega
        generalize ((l.drop at').drop fr).take (tt - fr) = p at *
        have b1 : i1 ≤ j1 := by omega
        have b2 : j1 ≤ bc := by omega
        have b3 : j1 ≤ l.length := by omega
        have b4 : at' < j1 := by omega
        have e0 : ((0 : Int) != 0) = false := rfl
        have Hnext := Lib.hid hnext
        have Hown2 := Lib.hid (Hown.out.grow hg2)
        have Hg3 := Lib.hid hg3
        have Hdj := Lib.hid hj1d
        clear hP hnext hg3 hg2 hi1d hj1d Hfr hle hft htl ht0 Hown
        by_cases hb : bc = i1
        · subst hb
          rw [if_pos rfl, Nat.sub_self, show j1 - bc = 0 by omega] at hcut
          have hclone := clone_any hcut (by omega)
          have Hclone := Lib.hid hclone
          clear hclone hcut
          go_wp2_with fail
          (with_reducible refine Hclone.out.mono ?_)
          rintro e w4 ⟨cv, rfl, hc4, hg4⟩
          have hg5 := Hg3.out.trans hg4
          obtain ⟨v', w', r1, r2, r3⟩ := append_own (Hown2.out.grow hg4) (hc4.mono Hg3.out.size) hg5.size (by omega)
          obtain ⟨ca, cc, rfl⟩ := hc4.slice
          have hrel : RfInv w l v' (.int .i64 j1) w' := by
            refine ⟨k, j1, ps ++ [p], rfl, b3, r2, by simp; omega, ?_, ?_, Below.trans hg5 r3⟩
            · simp at hk ⊢; omega
            · rw [Hrf.out, Hnext.out, Hdj.out]
              refine Prod.ext (by simp) (Prod.ext ?_ rfl)
              simp; omega
          have Hrel := Lib.hid hrel
          have Hrun := Lib.hid r1
          clear hrel r1 r2 r3 hc4 hg4 hg5
          go_wp2_with (at_builtin; refine wpList_append rfl rfl rfl rfl Hrun.out ?_)
          go_roundw
          case rel => exact Hrel.out
          case measure => simp [intOf]; omega
        · skip
          rw [if_neg hb] at hcut
          have hclone := clone_any hcut (by omega)
          have Hclone := Lib.hid hclone
          clear hclone hcut
          go_wp2_with fail
          (with_reducible refine Hclone.out.mono ?_)
          rintro e w4 ⟨cv, rfl, hc4, hg4⟩
          have hg5 := Hg3.out.trans hg4
          obtain ⟨v', w', r1, r2, r3⟩ := append_own (Hown2.out.grow hg4) (hc4.mono Hg3.out.size) hg5.size (by omega)
          obtain ⟨ca, cc, rfl⟩ := hc4.slice
          have hrel : RfInv w l v' (.int .i64 j1) w' := by
            refine ⟨k, j1, ps ++ [p], rfl, b3, r2, by simp; omega, ?_, ?_, Below.trans hg5 r3⟩
            · simp at hk ⊢; omega
            · rw [Hrf.out, Hnext.out, Hdj.out]
              refine Prod.ext (by simp) (Prod.ext ?_ rfl)
              simp; omega
          have Hrel := Lib.hid hrel
          have Hrun := Lib.hid r1
          clear hrel r1 r2 r3 hc4 hg4 hg5
          go_wp2_with (at_builtin; refine wpList_append rfl rfl rfl rfl Hrun.out ?_)
          go_roundw
          case rel => exact Hrel.out
          case measure => simp [intOf]; omega
      · have e0 : ((er : Int) != 0) = true := by simp; omega
        rw [if_pos her] at Hrf
        have her' : er ≠ 0 := her
        clear her
        go_wp2
        refine bodyPost_ret (v := .tuple #[.slice oa ps.length oc, .int .i64 ((rfD crcTab l).2.1 : Nat), .int .i64 ((rfD crcTab l).2.2 : Nat)]) ?_ rfl ⟨_, rfl, ?_, Hg.out.trans hg2⟩
        · rw [Hrf.out]
          simp [results, Tryz.results35, go_sem]
        · rw [Hrf.out]
          simp only [List.append_nil]
          exact Hown.out.grow hg2
    · have hdr : l.drop at' = [] := List.drop_eq_nil_of_le (by omega)
      rw [if_pos hdr] at hrf
      have Hrf := Lib.hid hrf
      have Hown := Lib.hid hown
      obtain ⟨oa, oc, rfl⟩ := hown.slice
      have hlt' : l.length ≤ at' := by omega
      clear hrf hown hdr hk
      go_wp2
      refine bodyPost_ret (v := .tuple #[.slice oa ps.length oc, .int .i64 ((rfD crcTab l).2.1 : Nat), .int .i64 ((rfD crcTab l).2.2 : Nat)]) ?_ rfl ⟨_, rfl, ?_, hg⟩
      · rw [Hrf.out]
        simp [results, Tryz.results35, go_sem]
      · rw [Hrf.out]
        simp only [List.append_nil]
        exact Hown.out
end Go.Proofs.YtejpcoghkgjanaaGreatDoor
