/- Merged out of KS: helpers. -/
import Derived.Test.YtejpcoghkgjanaaGreatDoorVW
/- ManifestKeeps: its walk. -/
namespace Go.Proofs.YtejpcoghkgjanaaGreatDoor
open Go.RowKit Go.Gl Go.Wal Mn

structure KI (w : World) (B p r sb vb i : Nat) (wr : World) (V : VerD) (cv tv : Value) (n j : Nat) (ds : List EdD) (f : Lk) (T K : Nat) (F : Nat → Prop) : Prop where
  box : wr.heap[vb]? = some (.cells (verCells cv V.seq V.next V.wal) 38 (0, 0))
  own : Own 0 wr cv V.tabs
  set : SetAt wr sb p tv V n
  sown : Own 0 wr tv V.tabs
  disk : Dl 16777216 B wr p r f T K F
  mf : Mf f T n j ds V
  jle : j ≤ 2 * i
  files : K ≤ 8 * i + 8
  gr : Grow w wr

def KInv (w : World) (B p r sb vb m : Nat) (iv : Value) (wr : World) : Prop :=
  ∃ (i : Nat) (V : VerD) (cv tv : Value) (n j : Nat) (ds : List EdD) (f : Lk) (T K : Nat) (F : Nat → Prop), iv = .int .i64 i ∧ i ≤ m ∧ KI w B p r sb vb i wr V cv tv n j ds f T K F

theorem KI.grow {w : World} {B p r sb vb i : Nat} {wr wr' : World} {V : VerD} {cv tv : Value} {n j : Nat} {ds : List EdD} {f : Lk} {T K : Nat} {F : Nat → Prop} (h : KI w B p r sb vb i wr V cv tv n j ds f T K F) (hg : Grow wr wr') : KI w B p r sb vb i wr' V cv tv n j ds f T K F :=
  ⟨hg.heap h.box, owns_grow h.own hg, h.set.grow hg, owns_grow h.sown hg, h.disk.grow hg, h.mf, h.jle, h.files, h.gr.trans hg⟩

theorem KI.tl {w : World} {B p r sb vb i : Nat} {wr : World} {V : VerD} {cv tv : Value} {n j : Nat} {ds : List EdD} {f : Lk} {T K : Nat} {F : Nat → Prop} (h : KI w B p r sb vb i wr V cv tv n j ds f T K F) (hi : i ≤ 40) : V.tabs.length ≤ 1600 := by
  have := h.mf.tl
  have := h.jle
  omega

/-- What the regions of SameVersion read. -/
abbrev OpV (vb : Nat) (cv : Value) (V : VerD) (W : World) : Prop :=
  W.cell? ⟨vb, 0, none⟩ = some cv ∧ W.cell? ⟨vb, 1, none⟩ = some (.int .u64 V.seq) ∧ W.cell? ⟨vb, 2, none⟩ = some (.int .i64 V.next) ∧ W.cell? ⟨vb, 3, none⟩ = some (.int .i64 V.wal) ∧ vb < W.heap.size
theorem opV_of {vb : Nat} {cv : Value} {V : VerD} {W : World} (h : W.heap[vb]? = some (.cells (verCells cv V.seq V.next V.wal) 38 (0, 0))) : OpV vb cv V W := by
  obtain ⟨c0, c1, c2, c3⟩ := cells4 h
  exact ⟨c0, c1, c2, c3, lt_of_getElem? h⟩

theorem Iv.grow {w w' : World} {v : Value} {l : List Int} (h : Iv w v l) (hg : Grow w w') : Iv w' v l := by
  obtain ⟨a, c, hv, hm, h⟩ := h
  refine ⟨a, c, hv, hm, ?_⟩
  rcases h with h | ⟨b, o, ha, hb, hc⟩
  · exact .inl h
  · exact .inr ⟨b, o, ha, Nat.lt_of_lt_of_le hb hg.size, fun j x hx => by rw [Grow.cells _ _ _ hg hb]; exact hc j x hx⟩
theorem Iv.lt {w : World} {v : Value} {l : List Int} (h : Iv w v l) (hne : l ≠ []) {b : Nat} (hb : v.ownBlock = some b) : b < w.heap.size := by
  obtain ⟨a, c, rfl, hm, h⟩ := h
  rcases h with h | ⟨b', o, rfl, hb', _⟩
  · exact absurd h hne
  · cases hb; exact hb'

/-- After the commit of the round; after its rotation. -/
def KP1 (w : World) (B p r sb vb i k : Nat) (wr : World) : Prop :=
  ∃ (V : VerD) (cv tv : Value) (n j : Nat) (ds : List EdD) (f : Lk) (T K : Nat) (F : Nat → Prop), KI w B p r sb vb (i + 1) wr V cv tv n j ds f T K F ∧ j ≤ 2 * i + 1 + k ∧ K ≤ 8 * i + 9 + 3 * k

theorem own_nil0 {B : Nat} {w : World} {v : Value} {l : List Tb} (h : Own B w v l) : Own 0 w v l := owns_mono h (Nat.zero_le _)

/-- The slots of region 17. -/
def S17 (W0 : World) (ev : Value) (i b o : Nat) (av dv cv : Value) (x : EdD) (V : VerD) (r : Int × VerD) (k : Nat) (v : Value) (W : World) : Prop :=
  match k with
  | 0 => v = .agg (verCells cv V.seq V.next V.wal)
  | 1 => v = ev
  | 2 => v = .int .i64 i
  | 3 => v = .pointer (some ⟨b, o + i * 5, none⟩)
  | 4 => v = .agg (edCells av dv x.seq x.next x.wal)
  | 5 => ∃ bb, v = .slice (some ⟨bb, 0, none⟩) 1 1 ∧ W.heap[bb]? = some (.cells (edCells av dv x.seq x.next x.wal) 41 (0, 0))
  | 6 => ∃ a c, v = .tuple #[.agg (verCells (.slice a r.2.tabs.length c) r.2.seq r.2.next r.2.wal), .int .i64 r.1] ∧ Own W0.heap.size W (.slice a r.2.tabs.length c) r.2.tabs
  | 7 => ∃ a c, v = .tuple #[.agg (verCells (.slice a r.2.tabs.length c) r.2.seq r.2.next r.2.wal), .int .i64 r.1] ∧ Own W0.heap.size W (.slice a r.2.tabs.length c) r.2.tabs
  | 8 => ∃ a c, v = .agg (verCells (.slice a r.2.tabs.length c) r.2.seq r.2.next r.2.wal) ∧ Own W0.heap.size W (.slice a r.2.tabs.length c) r.2.tabs
  | 9 => v = .int .i64 r.1
  | 10 => ∃ b, W0.heap.size ≤ b ∧ v = .pointer (some ⟨b, 0, none⟩) ∧ ∃ x0 x1 x2 x3 : Value, W.heap[b]? = some (.cells #[x0, x1, x2, x3] 38 (0, 0))
  | 12 => v = .int .i64 r.1
  | _ => True

theorem S17.keep {W0 : World} {ev : Value} {i b o : Nat} {av dv cv : Value} {x : EdD} {V : VerD} {r : Int × VerD} : ∀ (j : Nat) (v : Value) (W W' : World), RB W W' → S17 W0 ev i b o av dv cv x V r j v W → S17 W0 ev i b o av dv cv x V r j v W' := by
  intro j v W W' hR h
  unfold S17 at h
  split at h
  · exact h
  · exact h
  · exact h
  · exact h
  · exact h
  · obtain ⟨b, hv, hc⟩ := h; exact ⟨b, hv, hR.stay _ _ _ (by decide) hc⟩
  · obtain ⟨a, c, hv, ho⟩ := h; exact ⟨a, c, hv, hR.own _ _ _ ho⟩
  · obtain ⟨a, c, hv, ho⟩ := h; exact ⟨a, c, hv, hR.own _ _ _ ho⟩
  · obtain ⟨a, c, hv, ho⟩ := h; exact ⟨a, c, hv, hR.own _ _ _ ho⟩
  · exact h
  · obtain ⟨b, hb, hv, x0, x1, x2, x3, hc⟩ := h; exact ⟨b, hb, hv, hR.box _ _ _ _ _ hc⟩
  · exact h
  · unfold S17; split <;> first | trivial | (exfalso; simp_all)

/-- What the box of the new version holds. -/
def Got (W0 : World) (r : Int × VerD) (pv : Value) (W : World) : Prop :=
  ∃ b a c, pv = .pointer (some ⟨b, 0, none⟩) ∧ W0.heap.size ≤ b ∧ W.heap[b]? = some (.cells (verCells (.slice a r.2.tabs.length c) r.2.seq r.2.next r.2.wal) 38 (0, 0)) ∧ Own W0.heap.size W (.slice a r.2.tabs.length c) r.2.tabs

def T17 (W0 : World) (r : Int × VerD) (l : Array Bool) (a : Act) (W : World) : Prop :=
  Below W0.heap.size W0 W ∧ (l.getD 11 false = true → ∃ pv, a.tmps[13]? = some pv ∧ Got W0 r pv W)

theorem T17.vac {W0 : World} {r : Int × VerD} {l : Array Bool} {a' : Act} {W' : World} (i : Nat) (hi : i ≠ 11) (hny : l.getD 11 false = false) (hB : Below W0.heap.size W0 W') : T17 W0 r (l.setIfInBounds i true) a' W' :=
  ⟨hB, fun h => by rw [getD_set_ne false hi, hny] at h; cases h⟩
theorem T17.pure {W0 : World} {r : Int × VerD} {l : Array Bool} {a : Act} {W : World} (i d : Nat) (v : Value) (hi : i ≠ 11) (hd : d ≠ 13) (h : T17 W0 r l a W) : T17 W0 r (l.setIfInBounds i true) (a.put (some d) v) W :=
  ⟨h.1, fun hl => by rw [getD_set_ne false hi] at hl; obtain ⟨pv, h1, h2⟩ := h.2 hl; exact ⟨pv, tmp_ne hd h1, h2⟩⟩

set_option maxRecDepth 100000 in
set_option maxHeartbeats 16000000 in
theorem keeps_any {w : World} {ev tn pk : Value} {es : List EdD} {bs : List Bool} {ks : List Int} (he : Edits w ev es) (had : ∀ e ∈ es, e.add.length ≤ maxLen ∧ (0 ≤ e.seq ∧ e.seq < 18446744073709551616) ∧ keyN e.add ≤ 1048576) (hbs : Ov w tn bs) (hks : Iv w pk ks) :
    Calls Tryz.prog 3 #[ev, tn, pk] w fun e w' => e = .returned (.bool true) ∧ Grow w w' := by
  obtain ⟨ea, ec, rfl, her⟩ := he
  obtain ⟨ta, tc, rfl⟩ := hbs.slice
  obtain ⟨ka, kc, rfl, hkm, hkc⟩ := id hks
  have Her := Lib.hid her
  have Had := Lib.hid had
  have Hbs := Lib.hid hbs
  have Hks := Lib.hid hks
  clear her had hbs hks hkc
  go_enter Tryz.func3, Tryz.ntmps3
  go_wp2_with fail
  (with_reducible refine (known_any apply_ok _).mono ?_)
  rintro e w1 ⟨rfl, hg1⟩
  by_cases hmany : 40 < es.length
  · have hm : decide ((40 : Int) < (es.length : Int)) = true := by simp; omega
    go_wp2
    go_ret
    exact ⟨rfl, hg1⟩
  have hm : decide ((40 : Int) < (es.length : Int)) = false := by simp; omega
  by_cases hmk : 100 < ks.length
  · have hm2 : decide ((100 : Int) < (ks.length : Int)) = true := by simp; omega
    go_wp2
    go_ret
    exact ⟨rfl, hg1⟩
  have hm2 : decide ((100 : Int) < (ks.length : Int)) = false := by simp; omega
  have hnew : Calls Tryz.prog 5 #[.int .i64 16777216] w1 _ := dl_new 16777216 w1 (by decide) (by decide)
  have Hnew := Lib.hid hnew
  clear hnew
  have Hg1 := Lib.hid hg1
  clear hg1
  go_wp2_with fail
  (with_reducible refine Hnew.out.mono ?_)
  rintro e w2 ⟨rfl, ⟨F2, hd2⟩, hg2⟩
  have Hop := Lib.hid (Open_any (N := 100) hd2 (nums_small w1.heap.size w2) (Q := fun V n f' T' K' => V = verZero ∧ n = 0 ∧ f' = turnL 0 [] (fun _ => none) ∧ T' ≤ 6 ∧ K' = 3) (fun V n f' T' K' hq => by obtain ⟨_, rfl, _, _, rfl⟩ := hq; decide) (fun w3 sb hg3 hsb hS => by
    refine (open_fresh hS (hd2.grow hg3) (Nat.le_trans hd2.base hsb) (nums_small w1.heap.size w3) (by decide) rfl rfl (by decide)).mono ?_
    rintro e w4 ⟨rfl, hS4, ⟨T4, F4, hT4, hd4⟩, hr4⟩
    exact ⟨rfl, _, verZero, 0, _, T4, _, F4, hS4, World.ownsRow_nil _ _ _ _, hd4, hr4, (mf_fresh (T := T4) (by omega)).one, rfl, rfl, rfl, by omega, rfl⟩))
  have Hg2 := Lib.hid (Hg1.out.trans hg2)
  have hwB : w.heap.size ≤ w1.heap.size := Hg1.out.size
  clear hg2 hd2 Hnew
  go_wp2_with fail
  (with_reducible refine Hop.out.mono ?_)
  rintro e w3 ⟨sb, rfl, hBsb, tv, V, n, f, T, K, F, hS3, hown3, hd3, hr3, rfl, rfl, rfl, hT3, rfl⟩
  have hst : KInv w w1.heap.size (w1.heap.size + 1) w1.heap.size sb w3.heap.size es.length (.int .i64 0) (w3.alloc (.cells (verCells (.slice none 0 0) 0 0 0) 38)) := by
    have hga := Grow.alloc w3 (.cells (verCells (.slice none 0 0) 0 0 0) 38)
    exact ⟨0, verZero, .slice none 0 0, tv, 0, 0, [], _, T, 3, F, rfl, Nat.zero_le _, heap_alloc_new _ _, World.ownsRow_nil _ _ _ _, hS3.grow hga, owns_grow hown3 hga, hd3.grow hga, mf_fresh hT3, by decide, by decide, (show Grow w w3 from Below.trans Hg2.out (hr3.below.mono hwB)).trans hga⟩
  have hvB : w1.heap.size ≤ w3.heap.size := hd3.base
  have Hst := Lib.hid hst
  clear hst hS3 hown3 hd3 hr3 Hop Hg2
  generalize w1.heap.size = B at *
  go_wp2_with fail
  generalize w3.heap.size = vb at *
  go_loopw [12] (fun iv wr => KInv w B (B + 1) B sb vb es.length iv wr) (fun iv _ => es.length - (intOf iv).toNat)
  case atStart => exact Hst.out
  case round =>
    obtain ⟨i, V, cv, tv, n, j, ds, f, T, K, F, rfl, hi, hinv⟩ := hrel
    by_cases hlt : i < es.length
    · obtain ⟨x, hx⟩ : ∃ x, es[i]? = some x := ⟨es[i], by simp [hlt]⟩
      obtain ⟨b, o, rfl, hbl, hed⟩ : ∃ b o, ea = some ⟨b, o, none⟩ ∧ b < w.heap.size ∧ ∀ (i : Nat) (e : EdD), es[i]? = some e → ∃ av dv, EdAt w b (o + i * 5) av dv e := by
        rcases Her.out with h1 | h1
        · rw [h1] at hlt; simp at hlt
        · exact h1
      obtain ⟨av, dv, hat0⟩ := hed i x hx
      obtain ⟨hxa, hxs, hxk⟩ := Had.out x (List.mem_of_getElem? hx)
      have hatr := hat0.grow hbl hinv.gr
      have hfew := few_sum hatr.adds hatr.drops (by unfold maxLen at hxa; omega) hxk
      obtain ⟨aa, ac, rfl, _⟩ := hat0.adds
      obtain ⟨da, dc, rfl, _, _⟩ := hat0.drops
      have Hat0 := Lib.hid hat0
      obtain ⟨p0, p1, p2, p3, p4, _, _⟩ := hatr
      have lb : b < wr.heap.size := Nat.lt_of_lt_of_le hbl hinv.gr.size
      have hi1 : (i : Int) < (es.length : Int) := by omega
      have hi0 : (0 : Int) ≤ (i : Int) := by omega
      have hwi : IntKind.i64.wrap ((i : Int) + 1) = (i : Int) + 1 := IntWalk.i64_in _ (by omega)
      have htl := hinv.tl (by omega)
      have Hfew := Lib.hid hfew
      have Hinv := Lib.hid hinv
      clear hfew hat0 hed hx hinv
      go_wp2_with fail
      (with_reducible refine Hfew.out.mono ?_)
      rintro e w2' ⟨rb, rfl, hrb, hg2⟩
      clear p0 p1 p2 p3 p4
      cases rb with
      | false =>
        go_wp2
        go_ret
        exact ⟨rfl, Hinv.out.gr.trans hg2⟩
      | true =>
      obtain ⟨hxa2, hxd2, hxk2⟩ := hrb rfl
      have hinv2 := Hinv.out.grow hg2
      have hat2 := Hat0.out.grow hbl hinv2.gr
      obtain ⟨va, vc, rfl⟩ := own_slice hinv2.own
      have Hinv2 := Lib.hid hinv2
      have Hat2 := Lib.hid hat2
      have lb2 : b < w2'.heap.size := Nat.lt_of_lt_of_le hbl hinv2.gr.size
      have lv2 := lt_of_getElem? hinv2.box
      have htl5 : V.tabs.length ≤ 5000 := by omega
      clear hinv2 hat2 Hfew Hinv lb hg2 hrb hxa
      generalize w2' = w2 at *
      go_upto_region 17 with fail
      go_cut [13, 14] from 61 to 70 (fun pv c wx => c = .int .i64 (applyAllD V [x]).1 ∧ Got w2 (applyAllD V [x]) pv wx ∧ Grow w2 wx)
      case first =>
        rename_i J K hJ hK
        refine wp_frame (fun a0 ha0 => ?_)
        have F0 : a0.tmps[0]? = some (.slice (some ⟨b, o, none⟩) es.length ec) := by rw [ha0]; rfl
        have F11 : a0.tmps[11]? = some (.pointer (some ⟨vb, 0, none⟩)) := by rw [ha0]; rfl
        have F12 : a0.tmps[12]? = some (.int .i64 i) := by rw [ha0]; rfl
        have hsz : a0.tmps.size = 123 := by rw [ha0]; rfl
        have Hrest : Hid (∀ a1 wx pv, FrameBut [13, 14, 61, 62, 63, 64, 65, 66, 67, 68, 69, 70] a0 a1 → a1.tmps[14]? = some (.int .i64 (applyAllD V [x]).1) → a1.tmps[13]? = some pv → Got w2 (applyAllD V [x]) pv wx → Grow w2 wx → K a1 wx) := Lib.hid (fun a1 wx pv ha h1 h2 h3 h4 => by
          refine hK _ _ (hJ _ _ ?_)
          refine ⟨a1.tmps.getD 13 undef, a1.tmps.getD 14 undef, a1.tmps.getD 61 undef, a1.tmps.getD 62 undef, a1.tmps.getD 63 undef, a1.tmps.getD 64 undef, a1.tmps.getD 65 undef, a1.tmps.getD 66 undef, a1.tmps.getD 67 undef, a1.tmps.getD 68 undef, a1.tmps.getD 69 undef, a1.tmps.getD 70 undef, ⟨by rw [Array.getD_eq_getD_getElem?, h1]; rfl, by rw [Array.getD_eq_getD_getElem?, h2]; exact h3, h4⟩, ha.fill.trans ?_⟩
          subst ha0
          kernel_rfl)
        clear ha0 hK hJ
        refine wp_region_flow (S17 w2 (.slice (some ⟨b, o, none⟩) es.length ec) i b o (.slice aa x.add.length ac) (.slice da x.drop.length dc) (.slice va V.tabs.length vc) x V (applyAllD V [x])) (T17 w2 (applyAllD V [x])) RB [13, 14, 61, 62, 63, 64, 65, 66, 67, 68, 69, 70] (by kernel_rfl) (by kernel_rfl) (by rw [hsz]; rfl) S17.keep ⟨Grow.drew _, fun h => by cases h⟩ ?_ (fun a1 W hf => ?_)
        rotate_left
        · obtain ⟨v, hv, hq⟩ := hf.slot 12 14 (by rfl) (by rfl)
          have hq' : v = _ := hq
          rw [hq'] at hv
          obtain ⟨pv, h6, hgot⟩ := hf.world.2 (by rfl)
          exact Hrest.out a1 W pv hf.alike hv h6 hgot hf.world.1
        clear Hrest
        refine ⟨?_, ?_, ?_, ?_, ?_, ?_, ?_, ?_, ?_, ?_, ?_, ?_, ?_, True.intro⟩
        · intro listed a W hf hun haf
          have hs1 : a.tmps.size = 123 := hf.alike.size.trans hsz
          have hB : Below w2.heap.size w2 W := hf.world.1
          have hny := not_yet hf.closed (n := 8) (e := 11) (i := 0) (by kernel_rfl) hun
          have G11 : a.tmps[11]'(by rw [hs1]; decide) = .pointer (some ⟨vb, 0, none⟩) := tmp_get ((hf.alike.same 11 (by decide)).trans F11) _
          have hv := hB.block _ lv2
          rw [Hinv2.out.box] at hv
          obtain ⟨x0, x1, x2, x3⟩ := cells4 hv
          have lW := lt_of_getElem? hv
          refine wpOp_act rfl (by rfl) (fun K' hK' => ?_)
          go_simp
          exact hK' _ _ ⟨_, rfl, (fun _ _ => rfl), RB.refl _, T17.vac 0 (by decide) hny hB⟩
        · intro listed a W hf hun haf
          have hs1 : a.tmps.size = 123 := hf.alike.size.trans hsz
          have hB : Below w2.heap.size w2 W := hf.world.1
          have hny := not_yet hf.closed (n := 8) (e := 11) (i := 1) (by kernel_rfl) hun
          have G0 : a.tmps[0]'(by rw [hs1]; decide) = .slice (some ⟨b, o, none⟩) es.length ec := tmp_get ((hf.alike.same 0 (by decide)).trans F0) _
          refine wpOp_act rfl (by rfl) (fun K' hK' => ?_)
          go_simp
          exact hK' _ _ ⟨_, rfl, (fun _ _ => rfl), RB.refl _, T17.vac 1 (by decide) hny hB⟩
        · intro listed a W hf hun haf
          have hs1 : a.tmps.size = 123 := hf.alike.size.trans hsz
          have hB : Below w2.heap.size w2 W := hf.world.1
          have hny := not_yet hf.closed (n := 8) (e := 11) (i := 2) (by kernel_rfl) hun
          have G12 : a.tmps[12]'(by rw [hs1]; decide) = .int .i64 i := tmp_get ((hf.alike.same 12 (by decide)).trans F12) _
          refine wpOp_act rfl (by rfl) (fun K' hK' => ?_)
          go_simp
          exact hK' _ _ ⟨_, rfl, (fun _ _ => rfl), RB.refl _, T17.vac 2 (by decide) hny hB⟩
        · intro listed a W hf hun haf
          have hs1 : a.tmps.size = 123 := hf.alike.size.trans hsz
          have hB : Below w2.heap.size w2 W := hf.world.1
          have hny := not_yet hf.closed (n := 8) (e := 11) (i := 3) (by kernel_rfl) hun
          obtain ⟨v1, s1, q1⟩ := hf.slot 1 63 rfl (after_listed haf 1 (by kernel_rfl))
          have q1' : v1 = _ := q1
          subst q1'
          have G63 := tmp_get s1 (by rw [hs1]; decide)
          obtain ⟨v2, s2, q2⟩ := hf.slot 2 64 rfl (after_listed haf 2 (by kernel_rfl))
          have q2' : v2 = _ := q2
          subst q2'
          have G64 := tmp_get s2 (by rw [hs1]; decide)
          refine wpOp_act rfl (by rfl) (fun K' hK' => ?_)
          go_simp
          exact hK' _ _ ⟨_, rfl, (fun _ _ => rfl), RB.refl _, T17.vac 3 (by decide) hny hB⟩
        · intro listed a W hf hun haf
          have hs1 : a.tmps.size = 123 := hf.alike.size.trans hsz
          have hB : Below w2.heap.size w2 W := hf.world.1
          have hny := not_yet hf.closed (n := 8) (e := 11) (i := 4) (by kernel_rfl) hun
          obtain ⟨v3, s3, q3⟩ := hf.slot 3 65 rfl (after_listed haf 3 (by kernel_rfl))
          have q3' : v3 = _ := q3
          subst q3'
          have G65 := tmp_get s3 (by rw [hs1]; decide)
          obtain ⟨p0, p1, p2, p3, p4, _, _⟩ := Hat2.out.grow lb2 hB
          have lW := Nat.lt_of_lt_of_le lb2 hB.size
          refine wpOp_act rfl (by rfl) (fun K' hK' => ?_)
          go_simp
          exact hK' _ _ ⟨_, rfl, (fun _ _ => rfl), RB.refl _, T17.vac 4 (by decide) hny hB⟩
        · intro listed a W hf hun haf
          have hs1 : a.tmps.size = 123 := hf.alike.size.trans hsz
          have hB : Below w2.heap.size w2 W := hf.world.1
          have hny := not_yet hf.closed (n := 8) (e := 11) (i := 5) (by kernel_rfl) hun
          obtain ⟨v4, s4, q4⟩ := hf.slot 4 66 rfl (after_listed haf 4 (by kernel_rfl))
          have q4' : v4 = _ := q4
          subst q4'
          have G66 := tmp_get s4 (by rw [hs1]; decide)
          refine wpOp_act rfl (by rfl) (fun K' hK' => ?_)
          go_simp
          exact hK' _ (W.alloc (.cells (edCells (.slice aa x.add.length ac) (.slice da x.drop.length dc) x.seq x.next x.wal) 41)) ⟨_, rfl, (fun _ _ => ⟨W.heap.size, rfl, heap_alloc_new _ _⟩), RB.grow (Grow.alloc _ _), T17.vac 5 (by decide) hny (hB.trans ((Grow.alloc _ _).mono hB.size))⟩
        · intro listed a W hf hun haf
          have hs1 : a.tmps.size = 123 := hf.alike.size.trans hsz
          have hB : Below w2.heap.size w2 W := hf.world.1
          have hny := not_yet hf.closed (n := 8) (e := 11) (i := 6) (by kernel_rfl) hun
          obtain ⟨v0, s0, q0⟩ := hf.slot 0 62 rfl (after_listed haf 0 (by kernel_rfl))
          have q0' : v0 = _ := q0
          subst q0'
          have G62 := tmp_get s0 (by rw [hs1]; decide)
          obtain ⟨v5, s5, q5⟩ := hf.slot 5 67 rfl (after_listed haf 5 (by kernel_rfl))
          obtain ⟨b5, q5, c5⟩ := q5
          have q5' : v5 = _ := q5
          subst q5'
          have G67 := tmp_get s5 (by rw [hs1]; decide)
          have hcall := Apply_any apply_ok (V := V) (owns_grow Hinv2.out.own hB) htl5 (edits_one (e := x) c5 (Hat2.out.adds.grow hB) (Hat2.out.drops.grow hB)) (by simp) (by intro y hy; rw [List.mem_singleton.1 hy]; omega)
          refine wpOp_call rfl (by rfl) (by go_simp) hcall ?_
          rintro e w7 ⟨v7, rfl, hown7, hg7⟩
          obtain ⟨ya, yc, rfl⟩ := own_slice hown7
          exact ⟨_, rfl, _, rfl, (fun _ _ => ⟨_, _, rfl, owns_mono hown7 hB.size⟩), RB.grow hg7, T17.vac 6 (by decide) hny (hB.trans (hg7.mono hB.size))⟩
        · intro listed a W hf hun haf
          have hs1 : a.tmps.size = 123 := hf.alike.size.trans hsz
          have hB : Below w2.heap.size w2 W := hf.world.1
          have hny := not_yet hf.closed (n := 8) (e := 11) (i := 7) (by kernel_rfl) hun
          obtain ⟨v6, s6, q6⟩ := hf.slot 6 68 rfl (after_listed haf 6 (by kernel_rfl))
          obtain ⟨ya, yc, q6, o6⟩ := q6
          have q6' : v6 = _ := q6
          subst q6'
          have G68 := tmp_get s6 (by rw [hs1]; decide)
          refine wpOp_act rfl (by rfl) (fun K' hK' => ?_)
          go_simp
          exact hK' _ _ ⟨_, rfl, (fun _ _ => ⟨_, _, rfl, o6⟩), RB.refl _, T17.vac 7 (by decide) hny hB⟩
        · intro listed a W hf hun haf
          have hs1 : a.tmps.size = 123 := hf.alike.size.trans hsz
          have hB : Below w2.heap.size w2 W := hf.world.1
          have hny := not_yet hf.closed (n := 8) (e := 11) (i := 8) (by kernel_rfl) hun
          obtain ⟨v7, s7, q7⟩ := hf.slot 7 61 rfl (after_listed haf 7 (by kernel_rfl))
          obtain ⟨ya, yc, q7, o7⟩ := q7
          have q7' : v7 = _ := q7
          subst q7'
          have G61 := tmp_get s7 (by rw [hs1]; decide)
          refine wpOp_act rfl (by rfl) (fun K' hK' => ?_)
          go_simp
          exact hK' _ _ ⟨_, rfl, (fun _ _ => ⟨_, _, rfl, o7⟩), RB.refl _, T17.vac 8 (by decide) hny hB⟩
        · intro listed a W hf hun haf
          have hs1 : a.tmps.size = 123 := hf.alike.size.trans hsz
          have hB : Below w2.heap.size w2 W := hf.world.1
          obtain ⟨v7, s7, q7⟩ := hf.slot 7 61 rfl (after_listed haf 7 (by kernel_rfl))
          obtain ⟨ya, yc, q7, o7⟩ := q7
          have q7' : v7 = _ := q7
          subst q7'
          have G61 := tmp_get s7 (by rw [hs1]; decide)
          refine wpOp_act rfl (by rfl) (fun K' hK' => ?_)
          go_simp
          exact hK' _ _ ⟨_, rfl, (fun _ _ => rfl), RB.refl _, T17.pure 9 70 _ (by decide) (by decide) hf.world⟩
        · intro listed a W hf hun haf
          have hs1 : a.tmps.size = 123 := hf.alike.size.trans hsz
          have hB : Below w2.heap.size w2 W := hf.world.1
          have hny := not_yet hf.closed (n := 8) (e := 11) (i := 10) (by kernel_rfl) hun
          refine wpOp_act rfl (by rfl) (fun K' hK' => ?_)
          go_simp
          exact hK' _ (W.alloc (.cells (verCells (.slice none 0 0) 0 0 0) 38)) ⟨_, rfl, (fun _ _ => ⟨W.heap.size, hB.size, rfl, _, _, _, _, heap_alloc_new _ _⟩), RB.grow (Grow.alloc _ _), T17.vac 10 (by decide) hny (hB.trans ((Grow.alloc _ _).mono hB.size))⟩
        · intro listed a W hf hun haf
          have hs1 : a.tmps.size = 123 := hf.alike.size.trans hsz
          have hB : Below w2.heap.size w2 W := hf.world.1
          obtain ⟨v8, s8, q8⟩ := hf.slot 8 69 rfl (after_listed haf 8 (by kernel_rfl))
          obtain ⟨ya, yc, q8, o8⟩ := q8
          have q8' : v8 = _ := q8
          subst q8'
          have G69 := tmp_get s8 (by rw [hs1]; decide)
          obtain ⟨v10, s10, q10⟩ := hf.slot 10 13 rfl (after_listed haf 10 (by kernel_rfl))
          obtain ⟨b9, l9, q10, x0, x1, x2, x3, c9⟩ := q10
          have q10' : v10 = _ := q10
          subst q10'
          have G13 := tmp_get s10 (by rw [hs1]; decide)
          obtain ⟨z0, z1, z2, z3⟩ := cells4 c9
          have lW := lt_of_getElem? c9
          have fy : ∀ i, W.frozen? ⟨b9, i, none⟩ = false := fun i => by simp [World.frozen?, c9]
          refine wpOp_act rfl (by rfl) (fun K' hK' => ?_)
          go_simp
          exact hK' _ _ ⟨undef, rfl, (fun _ h => by cases h), RB.set4 c9 _ _ _ _, set4_below hB l9 _ _ _ _, fun _ => ⟨_, s10, b9, ya, yc, rfl, l9, set4 c9 _ _ _ _, set4_own o8 c9 _ _ _ _⟩⟩
        · intro listed a W hf hun haf
          have hs1 : a.tmps.size = 123 := hf.alike.size.trans hsz
          have hB : Below w2.heap.size w2 W := hf.world.1
          obtain ⟨v9, s9, q9⟩ := hf.slot 9 70 rfl (after_listed haf 9 (by kernel_rfl))
          have q9' : v9 = _ := q9
          subst q9'
          have G70 := tmp_get s9 (by rw [hs1]; decide)
          refine wpOp_act rfl (by rfl) (fun K' hK' => ?_)
          go_simp
          exact hK' _ _ ⟨_, rfl, (fun _ _ => rfl), RB.refl _, T17.pure 12 14 _ (by decide) (by decide) hf.world⟩
      case rest =>
      obtain ⟨rfl, ⟨b6, ya, yc, rfl, l6, hbox6, hown6⟩, hg6⟩ := hcut
      have hinv6 := Hinv2.out.grow hg6
      have hat6 := Hat2.out.grow lb2 hg6
      have hnj := hinv6.mf.nle
      have hjl := hinv6.jle
      have hfl := hinv6.mf.fl
      have htot := hinv6.mf.total
      have hn100 : n < 100 := by omega
      obtain ⟨hf1, hf2⟩ := frame_le hxa2 hxd2 hxk2
      have hcom := commit_ok (N := 100) hinv6.set hinv6.sown htl5 hat6.adds hat6.drops (by omega) (by omega) (by omega) (fun h0 => fit_took hinv6.mf.good (took_of h0) hxs (by omega) (by omega) (by omega)) hinv6.disk hBsb (nums_small B wc) hn100 (by omega) hinv6.mf.man (by omega)
      have Hcom := Lib.hid hcom
      have Hinv6 := Lib.hid hinv6
      have Hbox6 := Lib.hid hbox6
      have Hown6 := Lib.hid hown6
      obtain ⟨p0, p1, p2, p3, p4, _, _⟩ := hat6
      have lb6 : b < wc.heap.size := Nat.lt_of_lt_of_le lb2 hg6.size
      have hone := applyAll_one V x
      clear hinv6 hcom hbox6 hown6 hg6 Hinv2 Hat2
      go_wp2_with fail
      (with_reducible refine Hcom.out.mono ?_)
      rintro e w3' ⟨rfl, hr3, hcase⟩
      clear p0 p1 p2 p3 p4
      have hr1 : (applyAllD V [x]).1 = (applyD V x).1 := by rw [hone]; split <;> simp_all
      have hcc : ((applyD V x).1 != (applyD V x).1) = false := by simp
      rw [hr1]
      go_upto_if 81 with fail
      go_cut [14] from 82 to 82 (fun _ wx => KP1 w B (B + 1) B sb vb i 0 wx)
      case first =>
        have hb3 := hr3.hold.keep _ _ _ _ Hbox6.out (by unfold Soft; decide)
        have ho6 := own_hold (own_nil0 Hown6.out) hr3.hold
        have hvb3 := hr3.hold.keep _ _ _ _ Hinv6.out.box (by unfold Soft; decide)
        have hown3 := own_hold Hinv6.out.own hr3.hold
        have hgr3 : Grow w w3' := Below.trans Hinv6.out.gr (hr3.below.mono hwB)
        have hbase := Hinv6.out
        rcases hcase with ⟨h0, tv', F', hS3, hs3, hd3⟩ | ⟨h0, hS3, F', hd3⟩
        · rw [if_pos h0] at hone
          have hmf := hbase.mf.commit h0 hxa2 hxd2 hxk2 hxs
          rw [hone] at hb3 ho6
          dsimp only at hb3 ho6
          have h0b : ((applyD V x).1 == 0) = true := by rw [h0]; rfl
          have Hh0 := Lib.hid h0
          clear h0 hone hr1
          generalize (applyD V x).2 = V2 at *
          obtain ⟨y0, y1, y2, y3⟩ := cells4 hb3
          have ly := lt_of_getElem? hb3
          obtain ⟨z0, z1, z2, z3⟩ := cells4 hvb3
          have lz := lt_of_getElem? hvb3
          have fz : ∀ i, w3'.frozen? ⟨vb, i, none⟩ = false := fun i => by simp [World.frozen?, hvb3]
          have hgx : GX vb w3' ((((w3'.setCell ⟨vb, 0, none⟩ (.slice ya V2.tabs.length yc)).setCell ⟨vb, 1, none⟩ (.int .u64 V2.seq)).setCell ⟨vb, 2, none⟩ (.int .i64 V2.next)).setCell ⟨vb, 3, none⟩ (.int .i64 V2.wal)) :=
            (((Go.Gl.grown_setCell _ _ _ _ : GX vb _ _).trans (Go.Gl.grown_setCell _ _ _ _)).trans (Go.Gl.grown_setCell _ _ _ _)).trans (Go.Gl.grown_setCell _ _ _ _)
          have hnb : sb ≠ vb := fun h => by
            have h1 : w3'.heap[sb]? = some _ := hS3
            rw [h, hvb3] at h1; cases h1
          have Hend : Hid (KP1 w B (B + 1) B sb vb i 0 ((((w3'.setCell ⟨vb, 0, none⟩ (.slice ya V2.tabs.length yc)).setCell ⟨vb, 1, none⟩ (.int .u64 V2.seq)).setCell ⟨vb, 2, none⟩ (.int .i64 V2.next)).setCell ⟨vb, 3, none⟩ (.int .i64 V2.wal))) := by
            have hfi := hbase.files
            exact Lib.hid ⟨V2, _, tv', n, j + 1, ds ++ [x], _, _, K + 1, F', ⟨set4 hvb3 _ _ _ _, set4_own ho6 hvb3 _ _ _ _, hgx.heap hS3 hnb, set4_own hs3 hvb3 _ _ _ _, hd3.gxv hvb3 hgx, hmf, by omega, by omega, set4_below hgr3 (Nat.le_trans hwB hvB) _ _ _ _⟩, by omega, by omega⟩
          clear hb3 ho6 hvb3 hown3 hgr3 hbase hS3 hs3 hd3 hmf hgx hr3 Hinv6 Hbox6 Hown6
          go_wp2
          go_meet
          exact Hend.out
        · have h0b : ((applyD V x).1 == 0) = false := by simpa using h0
          have Hend : Hid (KP1 w B (B + 1) B sb vb i 0 w3') := by
            have hfi := hbase.files
            exact Lib.hid ⟨V, _, _, n, j, ds, f, T, K, F', ⟨hvb3, hown3, hS3, own_hold hbase.sown hr3.hold, hd3, hbase.mf, by omega, by omega, hgr3⟩, by omega, by omega⟩
          have Hh0 := Lib.hid h0
          clear hb3 ho6 hvb3 hown3 hgr3 hbase hS3 hd3 hr3 Hinv6 Hbox6 Hown6 h0 hone hr1
          go_wp2
          go_meet
          exact Hend.out
      case rest =>
      clear Hcom Hinv6 Hbox6 Hown6 hcase hone hr1 hcc hr3 hnj hjl hfl htot hn100 hf1 hf2 lb6 lb2 lv2 htl5 htl Hat0
      obtain ⟨V, cv, tv, n, j, ds, f, T, K, F, hki, hjk, hKf⟩ := hcut
      go_upto_region 23 with fail
      go_cut [97] from 83 to 97 (fun c wx => c = .bool false ∧ KP1 w B (B + 1) B sb vb i 1 wx)
      case first =>
        by_cases hib : i < bs.length
        · obtain ⟨b', o', rfl, hb', hc'⟩ := (Hbs.out.grow hki.gr).at hib
          have hti : (i : Int) < (bs.length : Int) := by omega
          have htd : decide ((i : Int) < (bs.length : Int)) = true := decide_eq_true hti
          generalize bs[i] = bb at *
          cases bb with
          | false =>
            have Hend : Hid (KP1 w B (B + 1) B sb vb i 1 wc) := Lib.hid ⟨V, cv, tv, n, j, ds, f, T, K, F, hki, by omega, by omega⟩
            clear hki
            go_wp2
            go_meet
            exact ⟨rfl, Hend.out⟩
          | true =>
            have htl := hki.mf.tl
            have htk := hki.mf.tk
            have hfl := hki.mf.fl
            have htot := hki.mf.total
            have hnj := hki.mf.nle
            have hwl := wholeB_len V
            have hrot := rotate_ok (N := 100) (n := n) rfl hki.set hki.sown hki.mf.good (by omega) (by omega) hki.disk hBsb (nums_small B wc) (by omega) (by omega) hki.mf.tmp (by omega)
            have Hrot := Lib.hid hrot
            have Hki := Lib.hid hki
            clear hki hrot
            go_wp2_with fail
            (with_reducible refine Hrot.out.mono ?_)
            rintro e w5 ⟨rfl, hS5, ⟨T5, F5, hT5, hd5⟩, hr5⟩
            have Hend : Hid (KP1 w B (B + 1) B sb vb i 1 w5) := Lib.hid ⟨V, cv, tv, n + 1, j + 1, [wholeD V], _, T5, K + 3, F5, ⟨hr5.hold.keep _ _ _ _ Hki.out.box (by unfold Soft; decide), own_hold Hki.out.own hr5.hold, hS5, own_hold Hki.out.sown hr5.hold, hd5, Hki.out.mf.rotate (by omega) rfl hT5, by omega, by omega, Below.trans Hki.out.gr (hr5.below.mono hwB)⟩, by omega, by omega⟩
            clear hS5 hd5 hr5 Hki Hrot hc' hT5
            go_wp2
            go_meet
            exact ⟨rfl, Hend.out⟩
        · have hti : ¬ (i : Int) < (bs.length : Int) := by omega
          have htd : decide ((i : Int) < (bs.length : Int)) = false := decide_eq_false hti
          have Hend : Hid (KP1 w B (B + 1) B sb vb i 1 wc) := Lib.hid ⟨V, cv, tv, n, j, ds, f, T, K, F, hki, by omega, by omega⟩
          clear hki
          go_wp2
          go_meet
          exact ⟨rfl, Hend.out⟩
      case rest =>
      clear hki hjk hKf
      obtain ⟨rfl, V, cv, tv, n, j, ds, f, T, K, F, hki, hjk, hKf⟩ := hcut
      obtain ⟨va, vc, rfl⟩ := own_slice hki.own
      have htl := hki.mf.tl
      have hv6 := version_any hki.set hki.sown (by omega)
      have hver := fun W (hg : Grow wc W) => version_any (hki.set.grow hg) (owns_grow hki.sown hg) (by omega : V.tabs.length < 1000000000)
      have hbx := fun W (hg : Grow wc W) => hg.heap hki.box
      have hoc := fun W (hg : Grow wc W) => owns_grow hki.own hg
      have Hki := Lib.hid hki
      have Hver := Lib.hid hver
      have Hbx := Lib.hid hbx
      have Hoc := Lib.hid hoc
      clear hki hver hbx hoc hv6
      go_upto_region 25 with fail
      refine wp_region_pi (OpV vb (.slice va V.tabs.length vc) V) [(0, false), (2, false), (1, true), (3, true), (4, false)] (by kernel_rfl) (by kernel_rfl) (fun c a d v w h => by cases d <;> exact h) (opV_of (Hbx.out _ (Grow.drew _))) ?_
      simp only [arrange, nth]
      repeat (first | (refine wpPi_quiet (v := ?_) (by rfl) (fun W hW => ?_) ?_; rotate_left; (obtain ⟨hW0, hW1, hW2, hW3, hW4⟩ := hW; go_simp; with_reducible rfl); simp only [Act.put, List.setIfInBounds_toArray, List.set_cons_zero, List.set_cons_succ]) | (refine wpPi_off (by rfl) ?_; simp only [Act.put, List.setIfInBounds_toArray, List.set_cons_zero, List.set_cons_succ]))
      have hgd := Grow.drew wc
      refine wpPi_call (by rfl) (by go_simp) (Hver.out _ hgd) ?_
      rintro e w6 ⟨v6, rfl, ho6, hg6⟩
      have hg06 := hgd.trans hg6
      refine ⟨_, rfl, opV_of (Hbx.out _ hg06), ?_⟩
      try simp only [Act.put, List.setIfInBounds_toArray, List.set_cons_zero, List.set_cons_succ]
      repeat (first | (refine wpPi_quiet (v := ?_) (by rfl) (fun W hW => ?_) ?_; rotate_left; (obtain ⟨hW0, hW1, hW2, hW3, hW4⟩ := hW; go_simp; with_reducible rfl); simp only [Act.put, List.setIfInBounds_toArray, List.set_cons_zero, List.set_cons_succ]) | (refine wpPi_off (by rfl) ?_; simp only [Act.put, List.setIfInBounds_toArray, List.set_cons_zero, List.set_cons_succ]))
      refine wpPi_call (by rfl) (by go_simp) (same_version ho6 (Hoc.out _ hg06) (by omega)) ?_
      rintro e w7 ⟨rfl, hg7⟩
      have hg07 := hg06.trans hg7
      refine ⟨_, rfl, opV_of (Hbx.out _ hg07), ?_⟩
      try simp only [Act.put, List.setIfInBounds_toArray, List.set_cons_zero, List.set_cons_succ]
      repeat (first | (refine wpPi_quiet (v := ?_) (by rfl) (fun W hW => ?_) ?_; rotate_left; (obtain ⟨hW0, hW1, hW2, hW3, hW4⟩ := hW; go_simp; with_reducible rfl); simp only [Act.put, List.setIfInBounds_toArray, List.set_cons_zero, List.set_cons_succ]) | (refine wpPi_off (by rfl) ?_; simp only [Act.put, List.setIfInBounds_toArray, List.set_cons_zero, List.set_cons_succ]))
      refine wpPi_nil ?_
      have Hrel : Hid (KInv w B (B + 1) B sb vb es.length (.int .i64 ((i : Int) + 1)) w7) := Lib.hid ⟨i + 1, V, _, tv, n, j, ds, f, T, K, F, by simp, hlt, Hki.out.grow hg07⟩
      clear hgd hg6 hg06 hg7 hg07 ho6 Hki Hver Hbx Hoc
      go_wp2
      go_roundw
      case rel => exact Hrel.out
      case measure => simp [intOf]; omega
    · obtain rfl : i = es.length := by omega
      obtain ⟨va, vc, rfl⟩ := own_slice hinv.own
      have htl := hinv.mf.tl
      have hjl := hinv.jle
      have hnj := hinv.mf.nle
      have hfi := hinv.files
      have hdel := hinv.mf.el
      have hdsum := hinv.mf.sum
      have hcr := dl_crash hinv.disk (by omega) hinv.mf.sync (Iv.grow Hks.out hinv.gr) (fun hne b hb hf => by
        have h1 := (hinv.disk.foot hf).1
        have h2 := Iv.lt Hks.out hne hb
        omega)
      have Hcr := Lib.hid hcr
      have Hinv := Lib.hid hinv
      have hi1 : ¬ ((es.length : Int) < (es.length : Int)) := by omega
      clear hinv hcr
      go_wp2_with fail
      (with_reducible refine Hcr.out.mono ?_)
      rintro e w5 ⟨rfl, F5, hd5, hs5⟩
      have hr5 := Rl.sep Hinv.out.disk hs5
      have hop := Open_any (N := 100) hd5 (nums_small B w5) (Q := fun V' n' f' T' K' => V' = V ∧ n' = n ∧ n < 100 ∧ K' < 1000000000) (fun V' n' f' T' K' hq => by obtain ⟨_, rfl, h1, h2⟩ := hq; exact ⟨h1, by omega, h2⟩) (fun w6 sb' hg6 hsb hS => by
        refine (open_old hS (hd5.grow hg6) (Nat.le_trans hd5.base hsb) (nums_small B w6) (by omega : n < 100) (by omega) Hinv.out.mf.cur Hinv.out.mf.man Hinv.out.mf.eds (by omega) (by omega) Hinv.out.mf.all).mono ?_
        rintro e w7 ⟨rfl, ⟨tv7, hS7, ho7⟩, ⟨F7, hd7⟩, hr7⟩
        exact ⟨rfl, tv7, V, n, f, T, K, F7, hS7, ho7, hd7, hr7, Hinv.out.mf.one, rfl, rfl, by omega, by omega⟩)
      have Hop := Lib.hid hop
      have Hr5 := Lib.hid hr5
      clear hop hr5 hd5 hs5 Hcr
      go_wp2_with fail
      (with_reducible refine Hop.out.mono ?_)
      rintro e w6 ⟨sb6, rfl, hBs6, tv6, V6, n6, f6, T6, K6, F6, hS6, ho6, hd6, hr6, rfl, rfl, _, _⟩
      have hh6 := Hr5.out.trans hr6
      have hver := fun W (hg : Grow w6 W) => version_any (hS6.grow hg) (owns_grow ho6 hg) (by omega : V6.tabs.length < 1000000000)
      have hbx := fun W (hg : Grow w6 W) => hg.heap (hh6.hold.keep _ _ _ _ Hinv.out.box (by unfold Soft; decide))
      have hoc := fun W (hg : Grow w6 W) => owns_grow (own_hold Hinv.out.own hh6.hold) hg
      have hfin : Grow w w6 := Below.trans Hinv.out.gr (hh6.below.mono hwB)
      have Hfin := Lib.hid hfin
      have Hver := Lib.hid hver
      have Hbx := Lib.hid hbx
      have Hoc := Lib.hid hoc
      clear hver hbx hoc hfin hh6 hS6 ho6 hd6 hr6 Hr5 Hop Hinv
      go_upto_region 29 with fail
      refine wp_region_pi (OpV vb (.slice va V6.tabs.length vc) V6) [(0, false), (1, false), (2, false), (3, false), (4, false), (5, false), (6, false), (7, false), (9, false), (8, true), (10, true), (11, false), (12, false)] (by kernel_rfl) (by kernel_rfl) (fun c a d v w h => by cases d <;> exact h) (opV_of (Hbx.out _ (Grow.drew _))) ?_
      simp only [arrange, nth]
      repeat (first | (refine wpPi_quiet (v := ?_) (by rfl) (fun W hW => ?_) ?_; rotate_left; (obtain ⟨hW0, hW1, hW2, hW3, hW4⟩ := hW; go_simp; with_reducible rfl); simp only [Act.put, List.setIfInBounds_toArray, List.set_cons_zero, List.set_cons_succ]) | (refine wpPi_off (by rfl) ?_; simp only [Act.put, List.setIfInBounds_toArray, List.set_cons_zero, List.set_cons_succ]))
      have hgd := Grow.drew w6
      refine wpPi_call (by rfl) (by go_simp) (Hver.out _ hgd) ?_
      rintro e w7 ⟨v7, rfl, ho7, hg7⟩
      have hg07 := hgd.trans hg7
      refine ⟨_, rfl, opV_of (Hbx.out _ hg07), ?_⟩
      try simp only [Act.put, List.setIfInBounds_toArray, List.set_cons_zero, List.set_cons_succ]
      repeat (first | (refine wpPi_quiet (v := ?_) (by rfl) (fun W hW => ?_) ?_; rotate_left; (obtain ⟨hW0, hW1, hW2, hW3, hW4⟩ := hW; go_simp; with_reducible rfl); simp only [Act.put, List.setIfInBounds_toArray, List.set_cons_zero, List.set_cons_succ]) | (refine wpPi_off (by rfl) ?_; simp only [Act.put, List.setIfInBounds_toArray, List.set_cons_zero, List.set_cons_succ]))
      refine wpPi_call (by rfl) (by go_simp) (same_version ho7 (Hoc.out _ hg07) (by omega)) ?_
      rintro e w8 ⟨rfl, hg8⟩
      have hg08 := hg07.trans hg8
      refine ⟨_, rfl, opV_of (Hbx.out _ hg08), ?_⟩
      try simp only [Act.put, List.setIfInBounds_toArray, List.set_cons_zero, List.set_cons_succ]
      repeat (first | (refine wpPi_quiet (v := ?_) (by rfl) (fun W hW => ?_) ?_; rotate_left; (obtain ⟨hW0, hW1, hW2, hW3, hW4⟩ := hW; go_simp; with_reducible rfl); simp only [Act.put, List.setIfInBounds_toArray, List.set_cons_zero, List.set_cons_succ]) | (refine wpPi_off (by rfl) ?_; simp only [Act.put, List.setIfInBounds_toArray, List.set_cons_zero, List.set_cons_succ]))
      refine wpPi_nil ?_
      have Hend := Lib.hid (Hfin.out.trans hg08)
      clear hgd hg7 hg07 hg8 hg08 ho7 Hver Hbx Hoc Hfin
      go_wp2
      go_ret
      exact ⟨rfl, Hend.out⟩
end Go.Proofs.YtejpcoghkgjanaaGreatDoor
