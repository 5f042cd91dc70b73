/- Merged out of L9: helpers. -/
import Derived.Test.YtdegmpimcappjaaGreatDoorG4
import Derived.Test.YtdegmpimcappjaaGreatDoorG7
import Derived.Test.YtdegmpimcappjaaGreatDoorG5
import Derived.Test.YtdegmpimcappjaaGreatDoorG6
import Derived.Test.YtdegmpimcappjaaGreatDoorFB
/- FrontUnlike. -/
namespace Go.Proofs.YtdegmpimcappjaaGreatDoor
open Go.RowKit Go.Gl Go.Front

/-- The bytes that both Prints of a result tell. -/
def rsT (id : Nat) (r : ResD) : List UInt8 := if rightR r = true then headR id r ++ crlf2 ++ bodyR r else []

theorem rs_one {id : Nat} {r : ResD} {w : World} {e : Ending} {w' : World} (h : PrRPost id r w e w') : ∃ v, e = .returned (.tuple #[v, .int .i64 (errD (rightR r))]) ∧ Bv w' v (rsT id r) ∧ Grow w w' := by
  rcases h with ⟨hr, v, he, hv, hg⟩ | ⟨hr, he, hg⟩
  · refine ⟨v, ?_, ?_, hg⟩
    · rw [hr]; exact he
    · unfold rsT; rw [if_pos hr]; exact hv
  · refine ⟨.slice none 0 0, ?_, ?_, hg⟩
    · rw [hr]; exact he
    · unfold rsT; rw [if_neg (by rw [hr]; simp)]; exact bv_nil _

theorem unlike_op {o p : OpD} {b : Bool} (hb : b = true ↔ o = p) (hr : right o = true) (hs : right p = true) (ho : Wf o) (hp : Wf p) : (prT o == prT p) = b := by
  have h1 : printD o = some (prT o) := by unfold printD prT; rw [if_pos hr, if_pos hr]
  have h2 : printD p = some (prT p) := by unfold printD prT; rw [if_pos hs, if_pos hs]
  rw [Bool.eq_iff_iff, beq_iff_eq, hb]
  constructor
  · intro h
    rw [← h] at h2
    exact print_inj ho hp h1 h2
  · rintro rfl
    rfl

theorem unlike_res {id : Nat} {x y : ResD} {b : Bool} (hb : b = true ↔ x = y) (hi : id < 2 ^ 64) (hr : rightR x = true) (hs : rightR y = true) (hx : x.upload < 2 ^ 64) (hy : y.upload < 2 ^ 64) : (rsT id x == rsT id y) = b := by
  have h1 : printR id x = some (rsT id x) := by unfold printR rsT; rw [if_pos hr, if_pos hr]
  have h2 : printR id y = some (rsT id y) := by unfold printR rsT; rw [if_pos hs, if_pos hs]
  rw [Bool.eq_iff_iff, beq_iff_eq, hb]
  constructor
  · intro h
    rw [← h] at h2
    exact (((isRes_iff hi hx).2 h1).one ((isRes_iff hi hy).2 h2)).2
  · rintro rfl
    rfl

/-- The four blocks of the law's arguments. -/
structure Un (w0 : World) (b0 b1 b2 b3 : Nat) (o p : OpD) (x y : ResD) (pv dv pv' dv' kv ev kv' ev' : Value) (W : World) : Prop where
  h0 : W.heap[b0]? = some (opC o pv dv)
  h1 : W.heap[b1]? = some (opC p pv' dv')
  h2 : W.heap[b2]? = some (resC x kv ev)
  h3 : W.heap[b3]? = some (resC y kv' ev')
  o : OpIn W o pv dv
  p : OpIn W p pv' dv'
  x : ResIn W x kv ev
  y : ResIn W y kv' ev'
  hg : Grow w0 W

theorem Un.grow {w0 W W' : World} {b0 b1 b2 b3 : Nat} {o p : OpD} {x y : ResD} {pv dv pv' dv' kv ev kv' ev' : Value} (h : Un w0 b0 b1 b2 b3 o p x y pv dv pv' dv' kv ev kv' ev' W) (hg : Grow W W') : Un w0 b0 b1 b2 b3 o p x y pv dv pv' dv' kv ev kv' ev' W' :=
  ⟨op_at h.h0 hg, op_at h.h1 hg, res_at h.h2 hg, res_at h.h3 hg, h.o.grow hg, h.p.grow hg, h.x.grow hg, h.y.grow hg, h.hg.trans hg⟩

set_option maxRecDepth 1000000 in
set_option maxHeartbeats 8000000 in
theorem unlike_true {w : World} {o p : OpD} {x y : ResD} {pv dv pv' dv' kv ev kv' ev' : Value} (hI : OpIn w o pv dv) (hJ : OpIn w p pv' dv') (hx : ResIn w x kv ev) (hy : ResIn w y kv' ev') :
    Calls Tryz.prog 8 #[.agg #[.int .u64 o.id, .int .i64 o.kind, .string ⟨o.bucket.toArray⟩, .string ⟨o.key.toArray⟩, .string ⟨o.after.toArray⟩, .int .i64 o.n, .int .u64 o.upload, pv, dv],
      .agg #[.int .u64 p.id, .int .i64 p.kind, .string ⟨p.bucket.toArray⟩, .string ⟨p.key.toArray⟩, .string ⟨p.after.toArray⟩, .int .i64 p.n, .int .u64 p.upload, pv', dv'],
      .agg #[.int .i64 x.status, .int .u64 x.upload, kv, .bool x.more, ev], .agg #[.int .i64 y.status, .int .u64 y.upload, kv', .bool y.more, ev']] w fun e w' => e = .returned (.bool true) ∧ Grow w w' := by
  obtain ⟨pa, pc, rfl, _⟩ := id hI.p
  obtain ⟨da, dc, rfl, _⟩ := id hI.d
  obtain ⟨pa', pc', rfl, _⟩ := id hJ.p
  obtain ⟨da', dc', rfl, _⟩ := id hJ.d
  obtain ⟨ka, kc, rfl, _⟩ := id hx.k
  obtain ⟨ea, ec, rfl, _⟩ := id hx.d
  obtain ⟨ka', kc', rfl, _⟩ := id hy.k
  obtain ⟨ea', ec', rfl, _⟩ := id hy.d
  obtain ⟨W0, hW0⟩ : ∃ W, W = (((w.alloc (opC o (.slice pa o.parts.length pc) (.slice da o.data.length dc))).alloc (opC p (.slice pa' p.parts.length pc') (.slice da' p.data.length dc'))).alloc (resC x (.slice ka x.keys.length kc) (.slice ea x.data.length ec))).alloc (resC y (.slice ka' y.keys.length kc') (.slice ea' y.data.length ec')) := ⟨_, rfl⟩
  have hU : Un w w.heap.size (w.heap.size + 1) (w.heap.size + 1 + 1) (w.heap.size + 1 + 1 + 1) o p x y (.slice pa o.parts.length pc) (.slice da o.data.length dc) (.slice pa' p.parts.length pc') (.slice da' p.data.length dc') (.slice ka x.keys.length kc) (.slice ea x.data.length ec) (.slice ka' y.keys.length kc') (.slice ea' y.data.length ec') W0 := by
    generalize hA : opC o (.slice pa o.parts.length pc) (.slice da o.data.length dc) = A at hW0
    generalize hB : opC p (.slice pa' p.parts.length pc') (.slice da' p.data.length dc') = B at hW0
    generalize hC : resC x (.slice ka x.keys.length kc) (.slice ea x.data.length ec) = C at hW0
    generalize hD : resC y (.slice ka' y.keys.length kc') (.slice ea' y.data.length ec') = D at hW0
    have g0 := Grow.alloc w A
    have g1 := Grow.alloc (w.alloc A) B
    have g2 := Grow.alloc ((w.alloc A).alloc B) C
    have g3 := Grow.alloc (((w.alloc A).alloc B).alloc C) D
    have e0 := heap_alloc_new w A
    have e1 := heap_alloc_new (w.alloc A) B
    have e2 := heap_alloc_new ((w.alloc A).alloc B) C
    have e3 := heap_alloc_new (((w.alloc A).alloc B).alloc C) D
    have s1 : (w.alloc A).heap.size = w.heap.size + 1 := by simp
    have s2 : ((w.alloc A).alloc B).heap.size = w.heap.size + 1 + 1 := by simp
    have s3 : (((w.alloc A).alloc B).alloc C).heap.size = w.heap.size + 1 + 1 + 1 := by simp
    rw [s1] at e1
    rw [s2] at e2
    rw [s3] at e3
    have g := ((g0.trans g1).trans g2).trans g3
    subst hW0
    refine ⟨?_, ?_, ?_, ?_, hI.grow g, hJ.grow g, hx.grow g, hy.grow g, g⟩
    · rw [hA]; exact (((g1.trans g2).trans g3).block _ (lt_of_getElem? e0)).trans e0
    · rw [hB]; exact ((g2.trans g3).block _ (lt_of_getElem? e1)).trans e1
    · rw [hC]; exact (g3.block _ (lt_of_getElem? e2)).trans e2
    · rw [hD]; exact e3
  have HW0 := Lib.hid hW0
  have HU := Lib.hid hU
  clear hU hW0 hI hJ hx hy
  go_enter Tryz.func8, Tryz.ntmps8
  go_upto_region 1 with fail
  have hW0 := HW0.out
  dsimp only [opC, resC] at hW0
  rw [← hW0]
  clear hW0 HW0
  generalize w.heap.size = b0 at *
  generalize b0 + 1 = b1 at *
  generalize b1 + 1 = b2 at *
  generalize b2 + 1 = b3 at *
  have HK := Lib.hid (known_true HU.out.o.base)
  go_wp2_with fail
  (with_reducible refine HK.out.mono ?_)
  rintro e w1 ⟨rfl, hg⟩
  replace HU := Lib.hid (HU.out.grow hg)
  clear hg HK
  have HF := Lib.hid (few_any HU.out.o.p HU.out.o.d)
  obtain ⟨c0, c1, c2, c3, c4, c5, c6, c7, c8, c9⟩ := nine (o := o) HU.out.h0
  go_wp2_with fail
  (with_reducible refine HF.out.mono ?_)
  rintro e w2 ⟨rfl, hg⟩
  replace HU := Lib.hid (HU.out.grow hg)
  clear hg HF c0 c1 c2 c3 c4 c5 c6 c7 c8 c9
  generalize fewB o = fa at *
  cases fa with
  | false =>
    go_wp2
    go_ret
    exact ⟨rfl, HU.out.hg⟩
  | true =>
    have HF := Lib.hid (few_any HU.out.p.p HU.out.p.d)
    obtain ⟨c0, c1, c2, c3, c4, c5, c6, c7, c8, c9⟩ := nine (o := p) HU.out.h1
    go_wp2_with fail
    (with_reducible refine HF.out.mono ?_)
    rintro e w3 ⟨rfl, hg⟩
    replace HU := Lib.hid (HU.out.grow hg)
    clear hg HF c0 c1 c2 c3 c4 c5 c6 c7 c8 c9
    generalize fewB p = fb at *
    cases fb with
    | false =>
      go_wp2
      go_ret
      exact ⟨rfl, HU.out.hg⟩
    | true =>
      have HS := Lib.hid (size_any HU.out.x.k HU.out.x.d HU.out.x.kl)
      obtain ⟨c0, c1, c2, c3, c4, c5⟩ := five (r := x) HU.out.h2
      go_wp2_with fail
      (with_reducible refine HS.out.mono ?_)
      rintro e w4 ⟨rfl, hg⟩
      replace HU := Lib.hid (HU.out.grow hg)
      clear hg HS c0 c1 c2 c3 c4 c5
      by_cases hsx : (262144 : Int) < sizeI x
      · go_wp2
        go_ret
        exact ⟨rfl, HU.out.hg⟩
      · have HS := Lib.hid (size_any HU.out.y.k HU.out.y.d HU.out.y.kl)
        obtain ⟨c0, c1, c2, c3, c4, c5⟩ := five (r := y) HU.out.h3
        go_wp2_with fail
        (with_reducible refine HS.out.mono ?_)
        rintro e w5 ⟨rfl, hg⟩
        replace HU := Lib.hid (HU.out.grow hg)
        clear hg HS c0 c1 c2 c3 c4 c5
        by_cases hsy : (262144 : Int) < sizeI y
        · go_wp2
          go_ret
          exact ⟨rfl, HU.out.hg⟩
        · have HP := Lib.hid HU.out.o.print
          obtain ⟨c0, c1, c2, c3, c4, c5, c6, c7, c8, c9⟩ := nine (o := o) HU.out.h0
          obtain ⟨ro, hro⟩ : ∃ b, right o = b := ⟨_, rfl⟩
          have Hro := Lib.hid hro
          rw [hro] at HP
          go_wp2_with fail
          (with_reducible refine HP.out.mono ?_)
          rintro e w6 ⟨v, rfl, hv, hg⟩
          obtain ⟨va, vc, rfl⟩ := hv.slice
          replace HU := Lib.hid (HU.out.grow hg)
          have Hv := Lib.hid hv
          clear hg HP c0 c1 c2 c3 c4 c5 c6 c7 c8 c9 hv hro
          go_upto_region 6 with fail
          have HP := Lib.hid HU.out.p.print
          obtain ⟨c0, c1, c2, c3, c4, c5, c6, c7, c8, c9⟩ := nine (o := p) HU.out.h1
          obtain ⟨rp, hrp⟩ : ∃ b, right p = b := ⟨_, rfl⟩
          have Hrp := Lib.hid hrp
          rw [hrp] at HP
          go_wp2_with fail
          (with_reducible refine HP.out.mono ?_)
          rintro e w7 ⟨u, rfl, hu, hg⟩
          obtain ⟨ua, uc, rfl⟩ := hu.slice
          replace HU := Lib.hid (HU.out.grow hg)
          have Hu := Lib.hid hu
          replace Hv := Lib.hid (Hv.out.grow hg)
          clear hg HP c0 c1 c2 c3 c4 c5 c6 c7 c8 c9 hu hrp
          go_upto_region 7 with fail
          obtain ⟨sb, hsb⟩ : ∃ b : Bool, (b = true ↔ o = p) := by
            classical
            exact ⟨decide (o = p), by simp⟩
          have Hsb := Lib.hid hsb
          clear hsb
          go_cut [59] from 43 to 58 (fun v wx => v = .bool false ∧ Grow w7 wx)
          case first =>
            cases ro with
            | false =>
              have en : errD false = 1 := rfl
              have ey : errD true = 0 := rfl
              go_wp2_with fail
              refine wp_region_fix (fun W => Below w7.heap.size w7 W) (by kernel_rfl) (by kernel_rfl) (by kernel_rfl) (Grow.drew w7) ?_
              repeat (first | (refine wpFix_quiet (v := ?_) (by rfl) (fun W hW => ?_) ?_; rotate_left; (obtain hW := hW; go_simp; with_reducible rfl); (try simp only [Act.put, List.setIfInBounds_toArray, List.set_cons_zero, List.set_cons_succ])) | (refine wpFix_off (by rfl) ?_; (try simp only [Act.put, List.setIfInBounds_toArray, List.set_cons_zero, List.set_cons_succ])))
              refine wpFix_nil (fun W hW => ?_)
              go_wp2
              go_meet
              exact ⟨rfl, hW⟩
            | true =>
              cases rp with
              | false =>
                have en : errD false = 1 := rfl
                have ey : errD true = 0 := rfl
                go_wp2_with fail
                refine wp_region_fix (fun W => Below w7.heap.size w7 W) (by kernel_rfl) (by kernel_rfl) (by kernel_rfl) (Grow.drew w7) ?_
                repeat (first | (refine wpFix_quiet (v := ?_) (by rfl) (fun W hW => ?_) ?_; rotate_left; (obtain hW := hW; go_simp; with_reducible rfl); (try simp only [Act.put, List.setIfInBounds_toArray, List.set_cons_zero, List.set_cons_succ])) | (refine wpFix_off (by rfl) ?_; (try simp only [Act.put, List.setIfInBounds_toArray, List.set_cons_zero, List.set_cons_succ])))
                refine wpFix_nil (fun W hW => ?_)
                go_wp2
                go_meet
                exact ⟨rfl, hW⟩
              | true =>
                have heq := unlike_op Hsb.out Hro.out Hrp.out ⟨HU.out.o.id, HU.out.o.up⟩ ⟨HU.out.p.id, HU.out.p.up⟩
                have HS : Hid (∀ W, Below w7.heap.size w7 W → Calls Tryz.prog 21 #[.agg #[.int .u64 o.id, .int .i64 o.kind, .string ⟨o.bucket.toArray⟩, .string ⟨o.key.toArray⟩, .string ⟨o.after.toArray⟩, .int .i64 o.n, .int .u64 o.upload, .slice pa o.parts.length pc, .slice da o.data.length dc],
                    .agg #[.int .u64 p.id, .int .i64 p.kind, .string ⟨p.bucket.toArray⟩, .string ⟨p.key.toArray⟩, .string ⟨p.after.toArray⟩, .int .i64 p.n, .int .u64 p.upload, .slice pa' p.parts.length pc', .slice da' p.data.length dc']] W fun e w' => e = .returned (.bool sb) ∧ Grow W w') := Lib.hid (fun W hW => by
                  refine (sameOp_any (HU.out.o.grow hW).p (HU.out.o.grow hW).d (HU.out.p.grow hW).p (HU.out.p.grow hW).d HU.out.o.pl).mono ?_
                  rintro e w' ⟨b, he, hb, hg⟩
                  have : b = sb := by rw [Bool.eq_iff_iff, hb, Hsb.out]
                  rw [this] at he
                  exact ⟨he, hg⟩)
                have hc1 : ∀ W, Below w7.heap.size w7 W → (convert 24 9 (.slice va (prT o).length vc)).run Tryz.prog W = .ok (.string ⟨(prT o).toArray⟩) W := fun W hW => conv_text (Hv.out.grow hW)
                have hc2 : ∀ W, Below w7.heap.size w7 W → (convert 24 9 (.slice ua (prT p).length uc)).run Tryz.prog W = .ok (.string ⟨(prT p).toArray⟩) W := fun W hW => conv_text (Hu.out.grow hW)
                obtain ⟨c0, c1, c2, c3, c4, c5, c6, c7, c8, _⟩ := nine (o := o) HU.out.h0
                obtain ⟨d0, d1, d2, d3, d4, d5, d6, d7, d8, _⟩ := nine (o := p) HU.out.h1
                have l0 := lt_of_getElem? HU.out.h0
                have l1 := lt_of_getElem? HU.out.h1
                have hcl := Grow.cells (w := w7)
                go_wp2_with fail
                refine wp_region_fix (fun W => Below w7.heap.size w7 W) (by kernel_rfl) (by kernel_rfl) (by kernel_rfl) (Grow.drew w7) ?_
                repeat (first | (refine wpFix_quiet (v := ?_) (by rfl) (fun W hW => ?_) ?_; rotate_left; (obtain hW := hW; go_simp; with_reducible rfl); (try simp only [Act.put, List.setIfInBounds_toArray, List.set_cons_zero, List.set_cons_succ])) | (refine wpFix_off (by rfl) ?_; (try simp only [Act.put, List.setIfInBounds_toArray, List.set_cons_zero, List.set_cons_succ])))
                refine wpFix_call (by rfl) (fun W => by go_simp) (fun W hW => (HS.out W hW).mono (fun e W' h => ⟨h.1, Grow.trans hW h.2⟩)) ?_
                try try simp only [Act.put, List.setIfInBounds_toArray, List.set_cons_zero, List.set_cons_succ]
                repeat (first | (refine wpFix_quiet (v := ?_) (by rfl) (fun W hW => ?_) ?_; rotate_left; (obtain hW := hW; go_simp; with_reducible rfl); (try simp only [Act.put, List.setIfInBounds_toArray, List.set_cons_zero, List.set_cons_succ])) | (refine wpFix_off (by rfl) ?_; (try simp only [Act.put, List.setIfInBounds_toArray, List.set_cons_zero, List.set_cons_succ])))
                refine wpFix_nil (fun W hW => ?_)
                clear c0 c1 c2 c3 c4 c5 c6 c7 c8 d0 d1 d2 d3 d4 d5 d6 d7 d8 hcl
                go_wp2
                go_meet
                exact ⟨rfl, hW⟩
          case rest =>
          obtain ⟨rfl, hg⟩ := hcut
          replace HU := Lib.hid (HU.out.grow hg)
          clear hg Hv Hu Hsb Hro Hrp
          have HP : Hid (Calls Tryz.prog 24 #[.int .u64 7, .agg #[.int .i64 x.status, .int .u64 x.upload, .slice ka x.keys.length kc, .bool x.more, .slice ea x.data.length ec]] wc fun e w' => ∃ v, e = .returned (.tuple #[v, .int .i64 (errD (rightR x))]) ∧ Bv w' v (rsT 7 x) ∧ Grow wc w') := Lib.hid ((printResult_any (id := 7) (by decide) HU.out.o.base HU.out.x).mono fun _ _ he => rs_one he)
          obtain ⟨c0, c1, c2, c3, c4, c5⟩ := five (r := x) HU.out.h2
          obtain ⟨rx, hrx⟩ : ∃ b, rightR x = b := ⟨_, rfl⟩
          have Hrx := Lib.hid hrx
          rw [hrx] at HP
          go_wp2_with fail
          (with_reducible refine HP.out.mono ?_)
          rintro e w8 ⟨v, rfl, hv, hg⟩
          obtain ⟨fa, fc, rfl⟩ := hv.slice
          replace HU := Lib.hid (HU.out.grow hg)
          have Hf := Lib.hid hv
          clear hg HP c0 c1 c2 c3 c4 c5 hv hrx
          go_upto_region 10 with fail
          have HP : Hid (Calls Tryz.prog 24 #[.int .u64 7, .agg #[.int .i64 y.status, .int .u64 y.upload, .slice ka' y.keys.length kc', .bool y.more, .slice ea' y.data.length ec']] w8 fun e w' => ∃ v, e = .returned (.tuple #[v, .int .i64 (errD (rightR y))]) ∧ Bv w' v (rsT 7 y) ∧ Grow w8 w') := Lib.hid ((printResult_any (id := 7) (by decide) HU.out.o.base HU.out.y).mono fun _ _ he => rs_one he)
          obtain ⟨c0, c1, c2, c3, c4, c5⟩ := five (r := y) HU.out.h3
          obtain ⟨ry, hry⟩ : ∃ b, rightR y = b := ⟨_, rfl⟩
          have Hry := Lib.hid hry
          rw [hry] at HP
          go_wp2_with fail
          (with_reducible refine HP.out.mono ?_)
          rintro e w9 ⟨v, rfl, hv, hg⟩
          obtain ⟨ga, gc, rfl⟩ := hv.slice
          replace HU := Lib.hid (HU.out.grow hg)
          have Hg := Lib.hid hv
          replace Hf := Lib.hid (Hf.out.grow hg)
          clear hg HP c0 c1 c2 c3 c4 c5 hv hry
          go_upto_region 11 with fail
          obtain ⟨sb, hsb⟩ : ∃ b : Bool, (b = true ↔ x = y) := by
            classical
            exact ⟨decide (x = y), by simp⟩
          have Hsb := Lib.hid hsb
          clear hsb
          go_cut [8] from 70 to 86 (fun v wx => v = .bool true ∧ Grow w9 wx)
          case first =>
            cases rx with
            | false =>
              have en : errD false = 1 := rfl
              have ey : errD true = 0 := rfl
              go_wp2_with fail
              refine wp_region_fix (fun W => Below w9.heap.size w9 W) (by kernel_rfl) (by kernel_rfl) (by kernel_rfl) (Grow.drew w9) ?_
              repeat (first | (refine wpFix_quiet (v := ?_) (by rfl) (fun W hW => ?_) ?_; rotate_left; (obtain hW := hW; go_simp; with_reducible rfl); (try simp only [Act.put, List.setIfInBounds_toArray, List.set_cons_zero, List.set_cons_succ])) | (refine wpFix_off (by rfl) ?_; (try simp only [Act.put, List.setIfInBounds_toArray, List.set_cons_zero, List.set_cons_succ])))
              refine wpFix_nil (fun W hW => ?_)
              go_wp2
              go_meet
              exact ⟨rfl, hW⟩
            | true =>
              cases ry with
              | false =>
                have en : errD false = 1 := rfl
                have ey : errD true = 0 := rfl
                go_wp2_with fail
                refine wp_region_fix (fun W => Below w9.heap.size w9 W) (by kernel_rfl) (by kernel_rfl) (by kernel_rfl) (Grow.drew w9) ?_
                repeat (first | (refine wpFix_quiet (v := ?_) (by rfl) (fun W hW => ?_) ?_; rotate_left; (obtain hW := hW; go_simp; with_reducible rfl); (try simp only [Act.put, List.setIfInBounds_toArray, List.set_cons_zero, List.set_cons_succ])) | (refine wpFix_off (by rfl) ?_; (try simp only [Act.put, List.setIfInBounds_toArray, List.set_cons_zero, List.set_cons_succ])))
                refine wpFix_nil (fun W hW => ?_)
                go_wp2
                go_meet
                exact ⟨rfl, hW⟩
              | true =>
                have heq := unlike_res (id := 7) Hsb.out (by decide) Hrx.out Hry.out HU.out.x.up HU.out.y.up
                have HS : Hid (∀ W, Below w9.heap.size w9 W → Calls Tryz.prog 25 #[.agg #[.int .i64 x.status, .int .u64 x.upload, .slice ka x.keys.length kc, .bool x.more, .slice ea x.data.length ec], .agg #[.int .i64 y.status, .int .u64 y.upload, .slice ka' y.keys.length kc', .bool y.more, .slice ea' y.data.length ec']] W fun e w' => e = .returned (.bool sb) ∧ Grow W w') := Lib.hid (fun W hW => by
                  refine (sameResult_any (HU.out.x.grow hW).k (HU.out.x.grow hW).d (HU.out.y.grow hW).k (HU.out.y.grow hW).d HU.out.x.kl).mono ?_
                  rintro e w' ⟨b, he, hb, hg⟩
                  have : b = sb := by rw [Bool.eq_iff_iff, hb, Hsb.out]
                  rw [this] at he
                  exact ⟨he, hg⟩)
                have hc1 : ∀ W, Below w9.heap.size w9 W → (convert 24 9 (.slice fa (rsT 7 x).length fc)).run Tryz.prog W = .ok (.string ⟨(rsT 7 x).toArray⟩) W := fun W hW => conv_text (Hf.out.grow hW)
                have hc2 : ∀ W, Below w9.heap.size w9 W → (convert 24 9 (.slice ga (rsT 7 y).length gc)).run Tryz.prog W = .ok (.string ⟨(rsT 7 y).toArray⟩) W := fun W hW => conv_text (Hg.out.grow hW)
                obtain ⟨c0, c1, c2, c3, c4, _⟩ := five (r := x) HU.out.h2
                obtain ⟨d0, d1, d2, d3, d4, _⟩ := five (r := y) HU.out.h3
                have l0 := lt_of_getElem? HU.out.h2
                have l1 := lt_of_getElem? HU.out.h3
                have hcl := Grow.cells (w := w9)
                go_wp2_with fail
                refine wp_region_fix (fun W => Below w9.heap.size w9 W) (by kernel_rfl) (by kernel_rfl) (by kernel_rfl) (Grow.drew w9) ?_
                repeat (first | (refine wpFix_quiet (v := ?_) (by rfl) (fun W hW => ?_) ?_; rotate_left; (obtain hW := hW; go_simp; with_reducible rfl); (try simp only [Act.put, List.setIfInBounds_toArray, List.set_cons_zero, List.set_cons_succ])) | (refine wpFix_off (by rfl) ?_; (try simp only [Act.put, List.setIfInBounds_toArray, List.set_cons_zero, List.set_cons_succ])))
                refine wpFix_call (by rfl) (fun W => by go_simp) (fun W hW => (HS.out W hW).mono (fun e W' h => ⟨h.1, Grow.trans hW h.2⟩)) ?_
                try try simp only [Act.put, List.setIfInBounds_toArray, List.set_cons_zero, List.set_cons_succ]
                repeat (first | (refine wpFix_quiet (v := ?_) (by rfl) (fun W hW => ?_) ?_; rotate_left; (obtain hW := hW; go_simp; with_reducible rfl); (try simp only [Act.put, List.setIfInBounds_toArray, List.set_cons_zero, List.set_cons_succ])) | (refine wpFix_off (by rfl) ?_; (try simp only [Act.put, List.setIfInBounds_toArray, List.set_cons_zero, List.set_cons_succ])))
                refine wpFix_nil (fun W hW => ?_)
                clear c0 c1 c2 c3 c4 d0 d1 d2 d3 d4 hcl
                go_wp2
                go_meet
                exact ⟨by simp, hW⟩
          case rest =>
          obtain ⟨rfl, hg⟩ := hcut
          replace HU := Lib.hid (HU.out.grow hg)
          clear hg
          go_wp2
          go_ret
          exact ⟨rfl, HU.out.hg⟩
end Go.Proofs.YtdegmpimcappjaaGreatDoor
