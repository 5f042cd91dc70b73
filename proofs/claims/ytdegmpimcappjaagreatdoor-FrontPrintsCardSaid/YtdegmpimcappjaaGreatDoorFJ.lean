/- Merged out of L4, L5: helpers. -/
import Derived.Test.YtdegmpimcappjaaGreatDoorFI
import Derived.Test.YtdegmpimcappjaaGreatDoorFF
import Derived.Test.YtdegmpimcappjaaGreatDoorFH
/- FrontPrints. -/
namespace Go.Proofs.YtdegmpimcappjaaGreatDoor
open Go.RowKit Go.Gl Go.Front

theorem OpIn.printR {w : World} {o : OpD} {pv dv : Value} (h : OpIn w o pv dv) : Calls Tryz.prog 14 #[.agg #[.int .u64 o.id, .int .i64 o.kind, .string ⟨o.bucket.toArray⟩, .string ⟨o.key.toArray⟩, .string ⟨o.after.toArray⟩, .int .i64 o.n, .int .u64 o.upload, pv, dv]] w fun e w' => ∃ v, e = .returned (.tuple #[v, .int .i64 (errD (right o))]) ∧ Bv w' v (prT o) ∧ Grow w w' :=
  (printR_any h.id h.up h.p h.d h.bk h.pl).mono fun _ _ he => pr_one he


set_option maxRecDepth 100000 in
set_option maxHeartbeats 8000000 in
theorem prints_true {w : World} {o : OpD} {pv dv : Value} {s : List UInt8} (hI : OpIn w o pv dv) :
    Calls Tryz.prog 3 #[.agg #[.int .u64 o.id, .int .i64 o.kind, .string ⟨o.bucket.toArray⟩, .string ⟨o.key.toArray⟩, .string ⟨o.after.toArray⟩, .int .i64 o.n, .int .u64 o.upload, pv, dv], .string ⟨s.toArray⟩] w fun e w' => e = .returned (.bool true) ∧ Grow w w' := by
  have hB0 := heap_alloc_new w (opC o pv dv)
  have hg0 := Grow.alloc w (opC o pv dv)
  obtain ⟨pa, pc, rfl, _⟩ := id hI.p
  obtain ⟨da, dc, rfl, _⟩ := id hI.d
  go_enter Tryz.func3, Tryz.ntmps3
  go_upto_region 1 with fail
  replace hI := hI.grow hg0
  generalize w.alloc (opC o (.slice pa o.parts.length pc) (.slice da o.data.length dc)) = W0 at *
  generalize w.heap.size = B at *
  have HK := Lib.hid (known_true hI.base)
  have HB := Lib.hid hB0
  have HI := Lib.hid hI
  have HG := Lib.hid hg0
  clear hB0 hI hg0
  go_wp2_with fail
  (with_reducible refine HK.out.mono ?_)
  rintro e w1 ⟨rfl, hg1⟩
  have HF := Lib.hid (few_any (HI.out.grow hg1).p (HI.out.grow hg1).d)
  obtain ⟨c0, c1, c2, c3, c4, c5, c6, c7, c8, c9⟩ := nine (o := o) (op_at HB.out hg1)
  have Hg1 := Lib.hid hg1
  clear hg1
  go_wp2_with fail
  (with_reducible refine HF.out.mono ?_)
  rintro e w2 ⟨rfl, hg2⟩
  clear c0 c1 c2 c3 c4 c5 c6 c7 c8 c9
  have Hg2 := Lib.hid (Hg1.out.trans hg2)
  clear hg2
  generalize fewB o = fb at *
  cases fb with
  | false =>
    go_wp2
    go_ret
    exact ⟨rfl, HG.out.trans Hg2.out⟩
  | true =>
    by_cases hs : (10000 : Int) < (s.length : Int)
    · go_wp2
      go_ret
      exact ⟨rfl, HG.out.trans Hg2.out⟩
    · have hI2 := HI.out.grow Hg2.out
      have HP := Lib.hid hI2.print
      obtain ⟨c0, c1, c2, c3, c4, c5, c6, c7, c8, c9⟩ := nine (o := o) (op_at HB.out Hg2.out)
      have hsz : (⟨s.toArray⟩ : ByteArray).size ≤ 1000000000000 := by show s.toArray.size ≤ _; simp; omega
      have Hs1 : Hid (∀ W, Calls Tryz.prog 15 #[.string ⟨s.toArray⟩] W fun e w' => e = .returned (.string ⟨(esc s).toArray⟩) ∧ Grow W w') := Lib.hid (fun W => escape_any ⟨s.toArray⟩ W hsz)
      have Hs2 : Hid (∀ W, Calls Tryz.prog 16 #[.string ⟨s.toArray⟩] W fun e w' => e = .returned (.string ⟨(esc s).toArray⟩) ∧ Grow W w') := Lib.hid (fun W => escapeR_any ⟨s.toArray⟩ W hsz)
      have Hs3 : Hid (∀ W, Calls Tryz.prog 17 #[.string ⟨s.toArray⟩] W fun e w' => e = .returned (uneV (unesc s)) ∧ Grow W w') := Lib.hid (fun W => unescape_any ⟨s.toArray⟩ W hsz)
      have Hs4 : Hid (∀ W, Calls Tryz.prog 18 #[.string ⟨s.toArray⟩] W fun e w' => e = .returned (uneV (unesc s)) ∧ Grow W w') := Lib.hid (fun W => unescapeR_any ⟨s.toArray⟩ W hsz)
      have hel : (esc s).length ≤ 3 * s.length := esc_len s
      have Hs5 : Hid (∀ W, Calls Tryz.prog 17 #[.string ⟨(esc s).toArray⟩] W fun e w' => e = .returned (.tuple #[.string ⟨s.toArray⟩, .bool true]) ∧ Grow W w') := Lib.hid (fun W => by
        have h := unescape_any ⟨(esc s).toArray⟩ W (by show (esc s).toArray.size ≤ _; simp; omega)
        have e1 : unesc (esc s) = some s := unesc_iff.2 rfl
        rw [show (⟨(esc s).toArray⟩ : ByteArray).data.toList = esc s from rfl, e1] at h
        exact h)
      obtain ⟨k, Hk⟩ : ∃ k, Hid (k = errD (right o)) := ⟨_, Lib.hid rfl⟩
      rw [← Hk.out] at HP
      clear hI2 hsz hel
      go_wp2_with fail
      (with_reducible refine HP.out.mono ?_)
      rintro e w3 ⟨v, rfl, hv, hg3⟩
      clear c0 c1 c2 c3 c4 c5 c6 c7 c8 c9
      have Hg3 := Lib.hid (Hg2.out.trans hg3)
      have HP2 := Lib.hid ((HI.out.grow Hg3.out).printR)
      rw [← Hk.out] at HP2
      obtain ⟨c0, c1, c2, c3, c4, c5, c6, c7, c8, c9⟩ := nine (o := o) (op_at HB.out Hg3.out)
      have Hv := Lib.hid hv
      clear hg3 hv
      obtain ⟨va, vc, rfl⟩ := Hv.out.slice
      go_wp2_with fail
      (with_reducible refine HP2.out.mono ?_)
      rintro e w4 ⟨v2, rfl, hv2, hg4⟩
      clear c0 c1 c2 c3 c4 c5 c6 c7 c8 c9
      have hk1 := conv_text (Hv.out.grow hg4)
      have hk2 := conv_text hv2
      have Hg4 := Lib.hid (Hg3.out.trans hg4)
      obtain ⟨vb, vd, rfl⟩ := hv2.slice
      clear hv2 hg4
      go_wp2_with fail
      (with_reducible refine (Hs1.out _).mono ?_)
      rintro e w5 ⟨rfl, hg5⟩
      clear hk1 hk2
      go_wp2_with fail
      (with_reducible refine (Hs2.out _).mono ?_)
      rintro e w6 ⟨rfl, hg6⟩
      go_wp2_with fail
      (with_reducible refine (Hs3.out _).mono ?_)
      rintro e w7 ⟨rfl, hg7⟩
      have Hg7 := Lib.hid (((Hg4.out.trans hg5).trans hg6).trans hg7)
      clear hg5 hg6 hg7
      obtain ⟨U, b, hU⟩ : ∃ (U : List UInt8) (b : Bool), uneV (unesc s) = .tuple #[.string ⟨U.toArray⟩, .bool b] := by
        cases unesc s with
        | none => exact ⟨[], false, rfl⟩
        | some t => exact ⟨t, true, rfl⟩
      rw [hU] at Hs4 ⊢
      clear hU
      go_wp2_with fail
      (with_reducible refine (Hs4.out _).mono ?_)
      rintro e w8 ⟨rfl, hg8⟩
      go_wp2_with fail
      (with_reducible refine (Hs1.out _).mono ?_)
      rintro e w9 ⟨rfl, hg9⟩
      go_wp2_with fail
      (with_reducible refine (Hs5.out _).mono ?_)
      rintro e w10 ⟨rfl, hg10⟩
      have Hg10 := Lib.hid (((Hg7.out.trans hg8).trans hg9).trans hg10)
      clear hg8 hg9 hg10
      go_wp2
      go_ret
      exact ⟨rfl, HG.out.trans Hg10.out⟩
end Go.Proofs.YtdegmpimcappjaaGreatDoor

/- FrontParses. -/
namespace Go.Proofs.YtdegmpimcappjaaGreatDoor
open Go.RowKit Go.Gl Go.Front

/-- What a reader tells, with the values named. -/
def PsV (o : OpD) (k : Nat) (w : World) (e : Ending) (w' : World) : Prop :=
  ∃ pa pc da dc, e = .returned (.tuple #[.agg #[.int .u64 o.id, .int .i64 o.kind, .string ⟨o.bucket.toArray⟩, .string ⟨o.key.toArray⟩, .string ⟨o.after.toArray⟩, .int .i64 o.n, .int .u64 o.upload, .slice pa o.parts.length pc, .slice da o.data.length dc], .int .i64 (k : Int)]) ∧
    Iv w' (.slice pa o.parts.length pc) o.parts ∧ Bv w' (.slice da o.data.length dc) o.data ∧ o.parts.length ≤ 9223372036854775807 ∧ Grow w w'

theorem pv_max {w : World} {pv : Value} {l : List Int} (h : Pv w pv l) : l.length ≤ 9223372036854775807 := by
  rcases h with ⟨_, h0⟩ | ⟨g, cap, cur, _, _, _, hn, _, hm, _⟩
  · rw [← icells_len l, h0]; simp
  · rw [icells_len] at hn
    unfold maxLen at hm
    omega

theorem psV_of {o : OpD} {k : Nat} {w : World} {e : Ending} {w' : World} (h : PsPost (o, k) w e w') : PsV o k w e w' := by
  obtain ⟨hg, pv, dv, he, hp, hd⟩ := h
  obtain ⟨pa, pc, rfl⟩ := hp.slice'
  obtain ⟨da, dc, rfl⟩ := hd.slice
  exact ⟨pa, pc, da, dc, he, hp.iv, hd, pv_max hp, hg⟩

set_option maxRecDepth 100000 in
set_option maxHeartbeats 8000000 in
theorem parses_true {w : World} {v : Value} {l : List UInt8} (hb : Base w) (h : Bv w v l) :
    Calls Tryz.prog 4 #[v] w fun e w' => e = .returned (.bool true) ∧ Grow w w' := by
  have HK := Lib.hid (known_true hb)
  obtain ⟨va, vc, rfl⟩ := h.slice
  have Hb := Lib.hid hb
  have Hv := Lib.hid h
  clear hb h
  go_enter Tryz.func4, Tryz.ntmps4
  go_wp2_with fail
  (with_reducible refine HK.out.mono ?_)
  rintro e w1 ⟨rfl, hg1⟩
  have Hg1 := Lib.hid hg1
  clear hg1
  by_cases hl : (262144 : Int) < (l.length : Int)
  · go_wp2
    go_ret
    exact ⟨rfl, Hg1.out⟩
  · obtain ⟨o, k, hok⟩ : ∃ o k, parseP l = (o, k) := ⟨_, _, rfl⟩
    have HP : Hid (Calls Tryz.prog 19 #[.slice va l.length vc] w1 (PsV o k w1)) := Lib.hid (by
      have h := parseP_any (Hb.out.grow Hg1.out) (Hv.out.grow Hg1.out) (by omega)
      rw [hok] at h
      exact h.mono fun _ _ he => psV_of he)
    have HR : Hid (∀ W, Grow w1 W → Calls Tryz.prog 20 #[.slice va l.length vc] W (PsV o k W)) := Lib.hid (fun W hW => by
      have h := parseR_any (w := W) ((Hv.out.grow Hg1.out).grow hW) (by omega)
      rw [← parse_same, hok] at h
      exact h.mono fun _ _ he => psV_of he)
    clear hok
    go_wp2_with fail
    (with_reducible refine HP.out.mono ?_)
    rintro e w2 ⟨pa, pc, da, dc, rfl, hp, hd, hpl, hg2⟩
    have hB2 := heap_alloc_new w2 (opC o (.slice pa o.parts.length pc) (.slice da o.data.length dc))
    have hga2 := Grow.alloc w2 (opC o (.slice pa o.parts.length pc) (.slice da o.data.length dc))
    replace hp := hp.grow hga2
    replace hd := hd.grow hga2
    replace hg2 := hg2.trans hga2
    clear hga2
    go_upto_region 6 with fail
    generalize w2.alloc (opC o (.slice pa o.parts.length pc) (.slice da o.data.length dc)) = W2 at *
    generalize w2.heap.size = B2 at *
    have HR2 := Lib.hid (HR.out _ hg2)
    have HB2 := Lib.hid hB2
    have Hp := Lib.hid hp
    have Hd := Lib.hid hd
    have Hpl := Lib.hid hpl
    have Hg2 := Lib.hid (Hg1.out.trans hg2)
    clear hB2 hp hd hpl hg2 HR
    go_wp2_with fail
    (with_reducible refine HR2.out.mono ?_)
    rintro e w3 ⟨pa', pc', da', dc', rfl, hp', hd', _, hg3⟩
    have hB3 := heap_alloc_new w3 (opC o (.slice pa' o.parts.length pc') (.slice da' o.data.length dc'))
    have hga3 := Grow.alloc w3 (opC o (.slice pa' o.parts.length pc') (.slice da' o.data.length dc'))
    replace hp' := hp'.grow hga3
    replace hd' := hd'.grow hga3
    replace hg3 := hg3.trans hga3
    clear hga3
    go_upto_region 7 with fail
    generalize w3.alloc (opC o (.slice pa' o.parts.length pc') (.slice da' o.data.length dc')) = W3 at *
    generalize w3.heap.size = B3 at *
    have HS := Lib.hid (sameOp_any (Hp.out.grow hg3) (Hd.out.grow hg3) hp' hd' Hpl.out)
    obtain ⟨c0, c1, c2, c3, c4, c5, c6, c7, c8, c9⟩ := nine (o := o) (op_at HB2.out hg3)
    obtain ⟨d0, d1, d2, d3, d4, d5, d6, d7, d8, d9⟩ := nine (o := o) hB3
    have Hg3 := Lib.hid (Hg2.out.trans hg3)
    clear hB3 hp' hd' hg3
    go_wp2_with fail
    (with_reducible refine HS.out.mono ?_)
    rintro e w4 ⟨b, rfl, hbb, hg4⟩
    have hbt := hbb.2 rfl
    subst hbt
    clear hbb c0 c1 c2 c3 c4 c5 c6 c7 c8 c9 d0 d1 d2 d3 d4 d5 d6 d7 d8 d9
    go_wp2
    go_ret
    exact ⟨rfl, Hg3.out.trans hg4⟩
end Go.Proofs.YtdegmpimcappjaaGreatDoor
