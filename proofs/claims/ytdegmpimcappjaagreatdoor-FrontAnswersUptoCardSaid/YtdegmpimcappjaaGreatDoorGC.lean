/- Merged out of LA: helpers. -/
import Derived.Test.YtdegmpimcappjaaGreatDoorG8
import Derived.Test.YtdegmpimcappjaaGreatDoorG5
import Derived.Test.YtdegmpimcappjaaGreatDoorGB
/- FrontResults. -/
namespace Go.Proofs.YtdegmpimcappjaaGreatDoor
open Go.RowKit Go.Gl Go.Front

def resZ : ResD := ⟨0, 0, [], false, []⟩

/-- What a reader of a response tells, as numbers and a result. -/
def prsV : Option (Nat × ResD) → Nat × ResD × Int
  | some (i, r) => (i, r, 0)
  | none => (0, resZ, 14)

theorem prs_one {p : Option (Nat × ResD)} {w : World} {e : Ending} {w' : World} (h : PrsPost p w e w') :
    ∃ kv dv, e = .returned (.tuple #[.int .u64 (prsV p).1, .agg #[.int .i64 (prsV p).2.1.status, .int .u64 (prsV p).2.1.upload, kv, .bool (prsV p).2.1.more, dv], .int .i64 (prsV p).2.2]) ∧ (prsV p).1 < 18446744073709551616 ∧ ResIn w' (prsV p).2.1 kv dv ∧ Grow w w' := by
  cases p with
  | none =>
    obtain ⟨h1, h2⟩ := h
    exact ⟨_, _, h1, by decide, ⟨by decide, kv_nil _, bv_nil _, Nat.zero_le _⟩, h2⟩
  | some q =>
    obtain ⟨i, r⟩ := q
    obtain ⟨kv, dv, h1, h2, h3, h4⟩ := h
    exact ⟨kv, dv, h1, h2, h3, h4⟩

set_option maxRecDepth 1000000 in
set_option maxHeartbeats 8000000 in
theorem results_true {w : World} {id : Nat} {x : ResD} {kv ev v : Value} {l : List UInt8} (hb : Base w) (hid : id < 18446744073709551616) (hx : ResIn w x kv ev) (hv : Bv w v l) :
    Calls Tryz.prog 9 #[.int .u64 id, .agg #[.int .i64 x.status, .int .u64 x.upload, kv, .bool x.more, ev], v] w fun e w' => e = .returned (.bool true) ∧ Grow w w' := by
  have hk0 := hx.k
  have hd0 := hx.d
  obtain ⟨ka, kc, rfl, _⟩ := hk0
  obtain ⟨ea, ec, rfl, _⟩ := hd0
  obtain ⟨va, vc, rfl⟩ := hv.slice
  have hB0 := heap_alloc_new w (resC x (.slice ka x.keys.length kc) (.slice ea x.data.length ec))
  have hg0 := Grow.alloc w (resC x (.slice ka x.keys.length kc) (.slice ea x.data.length ec))
  go_enter Tryz.func9, Tryz.ntmps9
  go_upto_region 1 with fail
  replace hb := hb.grow hg0
  replace hx := hx.grow hg0
  replace hv := hv.grow hg0
  dsimp only [resC] at hB0 hg0 hb hx hv
  generalize w.alloc (.cells #[.int .i64 x.status, .int .u64 x.upload, .slice ka x.keys.length kc, .bool x.more, .slice ea x.data.length ec] 48) = W0 at *
  generalize w.heap.size = B at *
  have HB := Lib.hid hB0
  have HX := Lib.hid hx
  have HG := Lib.hid hg0
  have Hv := Lib.hid hv
  have Hb := Lib.hid hb
  have Hi := Lib.hid hid
  clear hB0 hx hg0 hv hb hid
  have HK := Lib.hid (known_true Hb.out)
  go_wp2_with fail
  (with_reducible refine HK.out.mono ?_)
  rintro e w1 ⟨rfl, hg1⟩
  have HS := Lib.hid (size_any (HX.out.grow hg1).k (HX.out.grow hg1).d HX.out.kl)
  obtain ⟨c0, c1, c2, c3, c4, c5⟩ := five (r := x) (res_at HB.out hg1)
  have Hg1 := Lib.hid hg1
  clear hg1 HK
  go_wp2_with fail
  (with_reducible refine HS.out.mono ?_)
  rintro e w2 ⟨rfl, hg2⟩
  have Hg2 := Lib.hid (Hg1.out.trans hg2)
  clear hg2 Hg1 HS c0 c1 c2 c3 c4 c5
  by_cases hsx : (262144 : Int) < sizeI x
  · go_wp2
    go_ret
    exact ⟨rfl, HG.out.trans Hg2.out⟩
  · by_cases hsl : (262144 : Int) < (l.length : Int)
    · go_wp2
      go_ret
      exact ⟨rfl, HG.out.trans Hg2.out⟩
    · have HP := Lib.hid ((printResult_any Hi.out (Hb.out.grow Hg2.out) (HX.out.grow Hg2.out)).mono fun _ _ he => rs_one he)
      obtain ⟨c0, c1, c2, c3, c4, c5⟩ := five (r := x) (res_at HB.out Hg2.out)
      obtain ⟨rx, hrx⟩ : ∃ k, errD (rightR x) = k := ⟨_, rfl⟩
      rw [hrx] at HP
      have Hrx := Lib.hid hrx
      clear hrx
      go_wp2_with fail
      (with_reducible refine HP.out.mono ?_)
      rintro e w3 ⟨p, rfl, hp, hg3⟩
      obtain ⟨fa, fc, rfl⟩ := hp.slice
      have Hg3 := Lib.hid (Hg2.out.trans hg3)
      have Hp := Lib.hid hp
      clear hg3 hp HP Hg2 c0 c1 c2 c3 c4 c5
      go_upto_region 6 with fail
      have HP := Lib.hid ((printResultR_any Hi.out (Hb.out.grow Hg3.out) (HX.out.grow Hg3.out)).mono fun _ _ he => rs_one he)
      obtain ⟨c0, c1, c2, c3, c4, c5⟩ := five (r := x) (res_at HB.out Hg3.out)
      rw [Hrx.out] at HP
      go_wp2_with fail
      (with_reducible refine HP.out.mono ?_)
      rintro e w4 ⟨q, rfl, hq, hg4⟩
      obtain ⟨ga, gc, rfl⟩ := hq.slice
      have Hg4 := Lib.hid (Hg3.out.trans hg4)
      have Hq := Lib.hid hq
      replace Hp := Lib.hid (Hp.out.grow hg4)
      clear hg4 hq HP Hg3 c0 c1 c2 c3 c4 c5
      go_upto_region 7 with fail
      go_cut [53] from 37 to 52 (fun v wx => v = .bool false ∧ Grow w4 wx)
      case first =>
        have HR1 : Hid (∀ W, Below w4.heap.size w4 W → Calls Tryz.prog 27 #[.agg #[.int .i64 x.status, .int .u64 x.upload, .slice ka x.keys.length kc, .bool x.more, .slice ea x.data.length ec]] W fun e w' => e = .returned (.bool (rightR x)) ∧ Grow W w') := Lib.hid (fun W hW => right_any ((HX.out.grow Hg4.out).grow hW).k ((HX.out.grow Hg4.out).grow hW).d HX.out.kl)
        have HR2 : Hid (∀ W, Below w4.heap.size w4 W → Calls Tryz.prog 28 #[.agg #[.int .i64 x.status, .int .u64 x.upload, .slice ka x.keys.length kc, .bool x.more, .slice ea x.data.length ec]] W fun e w' => e = .returned (.bool (rightR x)) ∧ Grow W w') := Lib.hid (fun W hW => rightR_any ((HX.out.grow Hg4.out).grow hW).k ((HX.out.grow Hg4.out).grow hW).d HX.out.kl)
        have hc1 : ∀ W, Below w4.heap.size w4 W → (convert 24 9 (.slice fa (rsT id x).length fc)).run Tryz.prog W = .ok (.string ⟨(rsT id x).toArray⟩) W := fun W hW => conv_text (Hp.out.grow hW)
        have hc2 : ∀ W, Below w4.heap.size w4 W → (convert 24 9 (.slice ga (rsT id x).length gc)).run Tryz.prog W = .ok (.string ⟨(rsT id x).toArray⟩) W := fun W hW => conv_text (Hq.out.grow hW)
        have hB4 := res_at HB.out Hg4.out
        obtain ⟨c0, c1, c2, c3, c4, _⟩ := five (r := x) hB4
        have l0 := lt_of_getElem? hB4
        have hcl := Grow.cells (w := w4)
        go_wp2_with fail
        refine wp_region_fix (fun W => Below w4.heap.size w4 W) (by kernel_rfl) (by kernel_rfl) (by kernel_rfl) (Grow.drew w4) ?_
        repeat (first | (refine wpFix_quiet (v := ?_) (by rfl) (fun W hW => ?_) ?_; rotate_left; (obtain hW := hW; go_simp; with_reducible rfl); (try simp only [Act.put, List.setIfInBounds_toArray, List.set_cons_zero, List.set_cons_succ])) | (refine wpFix_off (by rfl) ?_; (try simp only [Act.put, List.setIfInBounds_toArray, List.set_cons_zero, List.set_cons_succ])))
        refine wpFix_call (by rfl) (fun W => by go_simp) (fun W hW => (HR1.out W hW).mono (fun e W' h => ⟨h.1, Grow.trans hW h.2⟩)) ?_
        try try simp only [Act.put, List.setIfInBounds_toArray, List.set_cons_zero, List.set_cons_succ]
        repeat (first | (refine wpFix_quiet (v := ?_) (by rfl) (fun W hW => ?_) ?_; rotate_left; (obtain hW := hW; go_simp; with_reducible rfl); (try simp only [Act.put, List.setIfInBounds_toArray, List.set_cons_zero, List.set_cons_succ])) | (refine wpFix_off (by rfl) ?_; (try simp only [Act.put, List.setIfInBounds_toArray, List.set_cons_zero, List.set_cons_succ])))
        refine wpFix_call (by rfl) (fun W => by go_simp) (fun W hW => (HR2.out W hW).mono (fun e W' h => ⟨h.1, Grow.trans hW h.2⟩)) ?_
        try try simp only [Act.put, List.setIfInBounds_toArray, List.set_cons_zero, List.set_cons_succ]
        repeat (first | (refine wpFix_quiet (v := ?_) (by rfl) (fun W hW => ?_) ?_; rotate_left; (obtain hW := hW; go_simp; with_reducible rfl); (try simp only [Act.put, List.setIfInBounds_toArray, List.set_cons_zero, List.set_cons_succ])) | (refine wpFix_off (by rfl) ?_; (try simp only [Act.put, List.setIfInBounds_toArray, List.set_cons_zero, List.set_cons_succ])))
        refine wpFix_nil (fun W hW => ?_)
        clear c0 c1 c2 c3 c4 hcl hB4
        go_wp2
        go_meet
        exact ⟨by simp, hW⟩
      case rest =>
      obtain ⟨rfl, hg⟩ := hcut
      have Hg5 := Lib.hid (Hg4.out.trans hg)
      clear hg Hg4 Hp Hq Hrx
      obtain ⟨⟨i, r, k⟩, hP⟩ : ∃ p, prsV (parseRes l) = p := ⟨_, rfl⟩
      have HP1 : Hid (∀ W, Below W0.heap.size W0 W → Calls Tryz.prog 29 #[.slice va l.length vc] W fun e w' => ∃ kv dv, e = .returned (.tuple #[.int .u64 i, .agg #[.int .i64 r.status, .int .u64 r.upload, kv, .bool r.more, dv], .int .i64 k]) ∧ i < 18446744073709551616 ∧ ResIn w' r kv dv ∧ Grow W w') := Lib.hid (fun W hW => (parseResult_any (Hb.out.grow hW) (Hv.out.grow hW) (by omega)).mono fun _ _ he => by
        have h := prs_one he
        rw [hP] at h
        exact h)
      have HP2 : Hid (∀ W, Below W0.heap.size W0 W → Calls Tryz.prog 30 #[.slice va l.length vc] W fun e w' => ∃ kv dv, e = .returned (.tuple #[.int .u64 i, .agg #[.int .i64 r.status, .int .u64 r.upload, kv, .bool r.more, dv], .int .i64 k]) ∧ i < 18446744073709551616 ∧ ResIn w' r kv dv ∧ Grow W w') := Lib.hid (fun W hW => (parseResultR_any (Hb.out.grow hW) (Hv.out.grow hW) (by omega)).mono fun _ _ he => by
        have h := prs_one he
        rw [hP] at h
        exact h)
      clear hP hsx
      go_wp2_with fail
      (with_reducible refine (HP1.out _ Hg5.out).mono ?_)
      rintro e w6 ⟨kv1, dv1, rfl, _, hr1, hg6⟩
      have hk1 := hr1.k
      have hd1 := hr1.d
      obtain ⟨k1, m1, rfl, _⟩ := hk1
      obtain ⟨e1, n1, rfl, _⟩ := hd1
      have hB6 := heap_alloc_new w6 (resC r (.slice k1 r.keys.length m1) (.slice e1 r.data.length n1))
      have hga := Grow.alloc w6 (resC r (.slice k1 r.keys.length m1) (.slice e1 r.data.length n1))
      have Hg6 := Lib.hid (Hg5.out.trans (hg6.trans hga))
      have Hr1 := Lib.hid (hr1.grow hga)
      have HB6 := Lib.hid hB6
      clear hr1 hg6 hga hB6 Hg5 HP1
      go_upto_region 10 with fail
      dsimp only [resC] at Hg6 Hr1 HB6
      generalize w6.alloc (.cells #[.int .i64 r.status, .int .u64 r.upload, .slice k1 r.keys.length m1, .bool r.more, .slice e1 r.data.length n1] 48) = W6 at *
      generalize w6.heap.size = B6 at *
      go_wp2_with fail
      (with_reducible refine (HP2.out _ Hg6.out).mono ?_)
      rintro e w7 ⟨kv2, dv2, rfl, _, hr2, hg7⟩
      have hk2 := hr2.k
      have hd2 := hr2.d
      obtain ⟨k2, m2, rfl, _⟩ := hk2
      obtain ⟨e2, n2, rfl, _⟩ := hd2
      have hB7 := heap_alloc_new w7 (resC r (.slice k2 r.keys.length m2) (.slice e2 r.data.length n2))
      have hga := Grow.alloc w7 (resC r (.slice k2 r.keys.length m2) (.slice e2 r.data.length n2))
      have Hg7 := Lib.hid (Hg6.out.trans (hg7.trans hga))
      have Hr2 := Lib.hid (hr2.grow hga)
      replace Hr1 := Lib.hid (Hr1.out.grow (hg7.trans hga))
      have HB7 := Lib.hid hB7
      replace HB6 := Lib.hid (res_at HB6.out (hg7.trans hga))
      clear hr2 hg7 hga hB7 Hg6 HP2
      go_upto_region 11 with fail
      dsimp only [resC] at Hg7 Hr2 HB7 Hr1 HB6
      generalize w7.alloc (.cells #[.int .i64 r.status, .int .u64 r.upload, .slice k2 r.keys.length m2, .bool r.more, .slice e2 r.data.length n2] 48) = W7 at *
      generalize w7.heap.size = B7 at *
      have HS := Lib.hid (same_any Hr1.out.k Hr1.out.d Hr2.out.k Hr2.out.d Hr1.out.kl)
      obtain ⟨c0, c1, c2, c3, c4, c5⟩ := five (r := r) HB6.out
      obtain ⟨d0, d1, d2, d3, d4, d5⟩ := five (r := r) HB7.out
      go_wp2_with fail
      (with_reducible refine HS.out.mono ?_)
      rintro e w8 ⟨b, rfl, hbb, hg8⟩
      have hbt := hbb.2 rfl
      subst hbt
      have Hg8 := Lib.hid (HG.out.trans (Hg7.out.trans hg8))
      clear hbb c0 c1 c2 c3 c4 c5 d0 d1 d2 d3 d4 d5 hg8
      go_wp2
      go_ret
      exact ⟨rfl, Hg8.out⟩
end Go.Proofs.YtdegmpimcappjaaGreatDoor
