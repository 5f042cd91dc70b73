/- Merged out of LB: helpers. -/
import Derived.Test.YtdegmpimcappjaaGreatDoorGC
/- FrontAnswers. -/
namespace Go.Proofs.YtdegmpimcappjaaGreatDoor
open Go.RowKit Go.Gl Go.Front

/-- FrontAnswers, in plain terms: what is printed reads back. -/
theorem answers_back {id : Nat} {x : ResD} (hi : id < 2 ^ 64) (hu : x.upload < 2 ^ 64) (hr : rightR x = true) : prsV (parseRes (rsT id x)) = (id, x, 0) := by
  have h1 : printR id x = some (rsT id x) := by unfold printR rsT; rw [if_pos hr, if_pos hr]
  rw [parseRes_some ((isRes_iff hi hu).2 h1)]
  rfl

/-- What is read prints back; else it is the zero result. -/
theorem answers_read {l : List UInt8} {i : Nat} {r : ResD} {k : Int} (h : prsV (parseRes l) = (i, r, k)) : (k = 0 ∧ IsRes l i r) ∨ (k = 14 ∧ i = 0 ∧ r = resZ) := by
  unfold parseRes at h
  split at h
  · rename_i he
    cases h
    exact .inl ⟨rfl, he.choose_spec⟩
  · cases h
    exact .inr ⟨rfl, rfl, rfl⟩

theorem bodyK_three : ∀ l : List (List UInt8), (bodyK l).length ≤ 3 * bodyN l
  | [] => by simp [bodyK]
  | a :: l => by
    have h1 := bodyK_three l
    have h3 := esc_len a
    unfold bodyK at h1 ⊢
    unfold bodyN at h1 ⊢
    rw [List.flatMap_cons, List.length_append, List.length_append, List.map_cons, List.sum_cons]
    simp only [List.length_cons, List.length_nil]
    omega

theorem bodyN_le : ∀ {l : List (List UInt8)}, (∀ k ∈ l, k.length ≤ 1024) → bodyN l ≤ l.length * 1025
  | [], _ => by simp [bodyN]
  | a :: l, h => by
    have h1 := bodyN_le (l := l) (fun k hk => h k (List.mem_cons_of_mem _ hk))
    have h2 := h a (List.mem_cons_self ..)
    unfold bodyN at h1 ⊢
    rw [List.map_cons, List.sum_cons, List.length_cons]
    omega

theorem keys_small : ∀ {l : List (List UInt8)}, keysF l = true → ∀ k ∈ l, k.length ≤ 1024
  | [], _, k, hk => by cases hk
  | [a], h, k, hk => by
    obtain rfl : k = a := by simpa using hk
    simp only [keysF, keyB, Bool.and_eq_true, decide_eq_true_eq] at h
    exact h.2
  | a :: b :: l, h, k, hk => by
    simp only [keysF, keyB, Bool.and_eq_true, decide_eq_true_eq] at h
    rcases List.mem_cons.1 hk with rfl | hk
    · exact h.1.1.2
    · exact keys_small h.2 k hk

theorem rsT_len {id : Nat} {x : ResD} (hr : rightR x = true) (hs : ¬ (262144 : Int) < sizeI x) : (rsT id x).length ≤ 1000000 := by
  obtain ⟨_, h2, h3⟩ := right_keys hr
  have hk : keysF x.keys = true := by unfold rightR at hr; simp only [Bool.and_eq_true] at hr; exact hr.2
  have h4 := bodyN_le (keys_small hk)
  have h5 := foldl_sz x.keys x.data.length (by omega)
  unfold sizeI at hs
  rw [h5] at hs
  have h6 := bodyK_three x.keys
  have hb : (bodyR x).length ≤ 3 * 262144 := by
    unfold bodyR
    unfold bodyK at h6
    rw [List.length_append]
    omega
  have h7 := head_short id x hr (by omega)
  unfold rsT
  rw [if_pos hr, List.length_append, List.length_append]
  have h8 : crlf2.length = 4 := rfl
  omega
set_option maxRecDepth 1000000 in
set_option maxHeartbeats 8000000 in
theorem answers_true {w : World} {id : Nat} {x : ResD} {kv ev v : Value} {l : List UInt8} (hb : Base w) (hid : id < 18446744073709551616) (hx : ResIn w x kv ev) (hv : Bv w v l) :
    Calls Tryz.prog 10 #[.int .u64 id, .agg #[.int .i64 x.status, .int .u64 x.upload, kv, .bool x.more, ev], v] w fun e w' => e = .returned (.bool true) ∧ Grow w w' := by
  have hk0 := hx.k
  have hd0 := hx.d
  obtain ⟨ka, kc, rfl, _⟩ := hk0
  obtain ⟨ea, ec, rfl, _⟩ := hd0
  obtain ⟨va, vc, rfl⟩ := hv.slice
  have hB0 := heap_alloc_new w (resC x (.slice ka x.keys.length kc) (.slice ea x.data.length ec))
  have hg0 := Grow.alloc w (resC x (.slice ka x.keys.length kc) (.slice ea x.data.length ec))
  go_enter Tryz.func10, Tryz.ntmps10
  go_upto_region 1 with fail
  replace hb := hb.grow hg0
  replace hx := hx.grow hg0
  replace hv := hv.grow hg0
  dsimp only [resC] at hB0 hg0 hb hx hv
  generalize w.alloc (.cells #[.int .i64 x.status, .int .u64 x.upload, .slice ka x.keys.length kc, .bool x.more, .slice ea x.data.length ec] 48) = W0 at *
  generalize w.heap.size = B at *
  have HB := Lib.hid hB0
  have HX := Lib.hid hx
  have HG := Lib.hid hg0
  have Hv := Lib.hid hv
  have Hb := Lib.hid hb
  have Hi := Lib.hid hid
  clear hB0 hx hg0 hv hb hid
  have HK := Lib.hid (known_true Hb.out)
  go_wp2_with fail
  (with_reducible refine HK.out.mono ?_)
  rintro e w1 ⟨rfl, hg1⟩
  have HS := Lib.hid (size_any (HX.out.grow hg1).k (HX.out.grow hg1).d HX.out.kl)
  obtain ⟨c0, c1, c2, c3, c4, c5⟩ := five (r := x) (res_at HB.out hg1)
  have Hg1 := Lib.hid hg1
  clear hg1 HK
  go_wp2_with fail
  (with_reducible refine HS.out.mono ?_)
  rintro e w2 ⟨rfl, hg2⟩
  have Hg2 := Lib.hid (Hg1.out.trans hg2)
  clear hg2 Hg1 HS c0 c1 c2 c3 c4 c5
  by_cases hsx : (262144 : Int) < sizeI x
  · go_wp2
    go_ret
    exact ⟨rfl, HG.out.trans Hg2.out⟩
  · have Hsx := Lib.hid hsx
    by_cases hsl : (262144 : Int) < (l.length : Int)
    · go_wp2
      go_ret
      exact ⟨rfl, HG.out.trans Hg2.out⟩
    · have HP := Lib.hid ((printResult_any Hi.out (Hb.out.grow Hg2.out) (HX.out.grow Hg2.out)).mono fun _ _ he => rs_one he)
      obtain ⟨c0, c1, c2, c3, c4, c5⟩ := five (r := x) (res_at HB.out Hg2.out)
      obtain ⟨rx, hrx⟩ : ∃ k, rightR x = k := ⟨_, rfl⟩
      rw [hrx] at HP
      have Hrx := Lib.hid hrx
      clear hrx
      go_wp2_with fail
      (with_reducible refine HP.out.mono ?_)
      rintro e w3 ⟨p, rfl, hp, hg3⟩
      obtain ⟨fa, fc, rfl⟩ := hp.slice
      have Hg3 := Lib.hid (Hg2.out.trans hg3)
      have Hp := Lib.hid hp
      clear hg3 hp HP Hg2 c0 c1 c2 c3 c4 c5
      go_upto_if 33 with fail
      go_cut [9, 10, 11] from 34 to 52 (fun _ _ _ wx => Grow W0 wx)
      case first =>
        cases rx with
        | false =>
          have en : errD false = 1 := rfl
          go_wp2
          go_meet
          exact Hg3.out
        | true =>
          have ey : errD true = 0 := rfl
          have HP1 : Hid (Calls Tryz.prog 29 #[.slice fa (rsT id x).length fc] w3 fun e w' => ∃ kv dv, e = .returned (.tuple #[.int .u64 id, .agg #[.int .i64 x.status, .int .u64 x.upload, kv, .bool x.more, dv], .int .i64 0]) ∧ id < 18446744073709551616 ∧ ResIn w' x kv dv ∧ Grow w3 w') := Lib.hid ((parseResult_any (Hb.out.grow Hg3.out) Hp.out (rsT_len Hrx.out (Int.not_lt.2 Hsx.out))).mono fun _ _ he => by
            have h := prs_one he
            rw [answers_back Hi.out HX.out.up Hrx.out] at h
            exact h)
          go_wp2_with fail
          (with_reducible refine HP1.out.mono ?_)
          rintro e w6 ⟨kv1, dv1, rfl, _, hr1, hg6⟩
          have hk1 := hr1.k
          have hd1 := hr1.d
          obtain ⟨k1, m1, rfl, _⟩ := hk1
          obtain ⟨e1, n1, rfl, _⟩ := hd1
          have hB6 := heap_alloc_new w6 (resC x (.slice k1 x.keys.length m1) (.slice e1 x.data.length n1))
          have hga := Grow.alloc w6 (resC x (.slice k1 x.keys.length m1) (.slice e1 x.data.length n1))
          have Hg6 := Lib.hid (Hg3.out.trans (hg6.trans hga))
          have Hr1 := Lib.hid (hr1.grow hga)
          have HB6 := Lib.hid hB6
          clear hr1 hg6 hga hB6 HP1
          go_upto_region 8 with fail
          dsimp only [resC] at Hg6 Hr1 HB6
          generalize w6.alloc (.cells #[.int .i64 x.status, .int .u64 x.upload, .slice k1 x.keys.length m1, .bool x.more, .slice e1 x.data.length n1] 48) = W6 at *
          generalize w6.heap.size = B6 at *
          have HX6 := Lib.hid (HX.out.grow Hg6.out)
          have HS := Lib.hid (same_any Hr1.out.k Hr1.out.d HX6.out.k HX6.out.d Hr1.out.kl)
          obtain ⟨c0, c1, c2, c3, c4, c5⟩ := five (r := x) HB6.out
          obtain ⟨d0, d1, d2, d3, d4, d5⟩ := five (r := x) (res_at HB.out Hg6.out)
          go_wp2_with fail
          (with_reducible refine HS.out.mono ?_)
          rintro e w8 ⟨b, rfl, hbb, hg8⟩
          have hbt := hbb.2 rfl
          subst hbt
          have Hg8 := Lib.hid (Hg6.out.trans hg8)
          clear hbb c0 c1 c2 c3 c4 c5 d0 d1 d2 d3 d4 d5 hg8
          go_wp2
          go_meet
          exact Hg8.out
      case rest =>
      have Hgc := Lib.hid hcut
      clear hcut Hp Hg3 Hrx Hsx hsx
      obtain ⟨⟨i, r, k⟩, hP⟩ : ∃ p, prsV (parseRes l) = p := ⟨_, rfl⟩
      have HP1 : Hid (Calls Tryz.prog 29 #[.slice va l.length vc] wc fun e w' => ∃ kv dv, e = .returned (.tuple #[.int .u64 i, .agg #[.int .i64 r.status, .int .u64 r.upload, kv, .bool r.more, dv], .int .i64 k]) ∧ i < 18446744073709551616 ∧ ResIn w' r kv dv ∧ Grow wc w') := Lib.hid ((parseResult_any (Hb.out.grow Hgc.out) (Hv.out.grow Hgc.out) (by omega)).mono fun _ _ he => by
        have h := prs_one he
        rw [hP] at h
        exact h)
      have HA := Lib.hid (answers_read hP)
      clear hP
      go_wp2_with fail
      (with_reducible refine HP1.out.mono ?_)
      rintro e w6 ⟨kv1, dv1, rfl, hi1, hr1, hg6⟩
      have hk1 := hr1.k
      have hd1 := hr1.d
      obtain ⟨k1, m1, rfl, _⟩ := hk1
      obtain ⟨e1, n1, rfl, _⟩ := hd1
      have hB6 := heap_alloc_new w6 (resC r (.slice k1 r.keys.length m1) (.slice e1 r.data.length n1))
      have hga := Grow.alloc w6 (resC r (.slice k1 r.keys.length m1) (.slice e1 r.data.length n1))
      have Hg6 := Lib.hid (Hgc.out.trans (hg6.trans hga))
      have Hr1 := Lib.hid (hr1.grow hga)
      have HB6 := Lib.hid hB6
      have Hi1 := Lib.hid hi1
      clear hr1 hg6 hga hB6 HP1 Hgc hi1
      go_upto_region 11 with fail
      dsimp only [resC] at Hg6 Hr1 HB6
      generalize w6.alloc (.cells #[.int .i64 r.status, .int .u64 r.upload, .slice k1 r.keys.length m1, .bool r.more, .slice e1 r.data.length n1] 48) = W6 at *
      generalize w6.heap.size = B6 at *
      obtain ⟨c0, c1, c2, c3, c4, c5⟩ := five (r := r) HB6.out
      rcases HA.out with ⟨hk, hres⟩ | ⟨hk, hi0, hr0⟩
      · subst hk
        have hpr := (isRes_iff Hi1.out Hr1.out.up).1 hres
        have hrr := hres.right
        have hrs : rsT i r = l := by
          unfold printR at hpr
          rw [if_pos hrr] at hpr
          unfold rsT
          rw [if_pos hrr]
          exact Option.some.inj hpr
        have HP2 : Hid (Calls Tryz.prog 24 #[.int .u64 i, .agg #[.int .i64 r.status, .int .u64 r.upload, .slice k1 r.keys.length m1, .bool r.more, .slice e1 r.data.length n1]] W6 fun e w' => ∃ v, e = .returned (.tuple #[v, .int .i64 0]) ∧ Bv w' v l ∧ Grow W6 w') := Lib.hid ((printResult_any Hi1.out (Hb.out.grow Hg6.out) Hr1.out).mono fun _ _ he => by
          have h := rs_one he
          rw [hrs, hrr] at h
          exact h)
        clear hpr hrr hrs hres
        go_wp2_with fail
        (with_reducible refine HP2.out.mono ?_)
        rintro e w7 ⟨u, rfl, hu, hg7⟩
        have hc1 := conv_text hu
        have hc2 := conv_text (Hv.out.grow (Hg6.out.trans hg7))
        obtain ⟨ua, uc, rfl⟩ := hu.slice
        have Hg7 := Lib.hid (HG.out.trans (Hg6.out.trans hg7))
        clear c0 c1 c2 c3 c4 c5 hg7 hu
        go_wp2
        go_ret
        exact ⟨rfl, Hg7.out⟩
      · subst hk
        subst hi0
        subst hr0
        have HS : Hid (Calls Tryz.prog 31 #[.agg #[.int .i64 resZ.status, .int .u64 resZ.upload, .slice k1 resZ.keys.length m1, .bool resZ.more, .slice e1 resZ.data.length n1], .agg #[.int .i64 0, .int .u64 0, .slice none 0 0, .bool false, .slice none 0 0]] W6 (SrPost W6 resZ resZ)) := Lib.hid (same_any (r := resZ) (p := resZ) Hr1.out.k Hr1.out.d (kv_nil _) (bv_nil _) Hr1.out.kl)
        go_wp2_with fail
        (with_reducible refine HS.out.mono ?_)
        rintro e w8 ⟨b, rfl, hbb, hg8⟩
        have hbt := hbb.2 rfl
        subst hbt
        have Hg8 := Lib.hid (HG.out.trans (Hg6.out.trans hg8))
        clear hbb c0 c1 c2 c3 c4 c5 hg8
        go_wp2
        go_ret
        exact ⟨rfl, Hg8.out⟩
end Go.Proofs.YtdegmpimcappjaaGreatDoor
