/- Merged out of KE: helpers. -/
import Derived.Test.YtejpcoghkgjanaaGreatDoorVQ
import Derived.Test.YtejpcoghkgjanaaGreatDoorVJ
/- manifest.Set's Commit, where there is room. -/
namespace Go.Proofs.YtejpcoghkgjanaaGreatDoor
open Go.RowKit Go.Gl Go.Wal Mn

/-- All blocks stay but those of versions; those stay of four cells. -/
structure RCm (W W' : World) : Prop where
  keep : ∀ (b : Nat) (arr : Array Value) (t : TypeId) (f : Nat × Nat), W.heap[b]? = some (.cells arr t f) → t ≠ 38 → W'.heap[b]? = some (.cells arr t f)
  ver : ∀ (b : Nat) (cs : Array Value), W.heap[b]? = some (.cells cs 38 (0, 0)) → cs.size = 4 → ∃ cs' : Array Value, W'.heap[b]? = some (.cells cs' 38 (0, 0)) ∧ cs'.size = 4
theorem RCm.refl (W : World) : RCm W W := ⟨fun _ _ _ _ h _ => h, fun _ cs h hs => ⟨cs, h, hs⟩⟩
theorem RCm.grow {W W' : World} (h : Grow W W') : RCm W W' := ⟨fun _ _ _ _ hb _ => h.heap hb, fun _ cs hb hs => ⟨cs, h.heap hb, hs⟩⟩
theorem RCm.own {W W' : World} (h : RCm W W') {B : Nat} {v : Value} {l : List Tb} (ho : Own B W v l) : Own B W' v l := own_block_keep ho fun g hg => by
  obtain ⟨cur, hc, _⟩ := own_at ho hg
  rw [h.keep _ _ _ _ hc (by decide), hc]

def SCm (B sb : Nat) (tv av dv : Value) (V : VerD) (E : EdD) (r : Int × VerD) (j : Nat) (v : Value) (W : World) : Prop :=
  match j with
  | 0 => v = .pointer (some ⟨sb, 0, none⟩)
  | 1 => v = .pointer (some ⟨sb, 0, none⟩)
  | 2 => v = .pointer (some ⟨sb, 1, none⟩)
  | 3 => v = .agg (verCells tv V.seq V.next V.wal)
  | 4 => v = .agg (edCells av dv E.seq E.next E.wal)
  | 5 => ∃ q : Nat, v = .slice (some ⟨q, 0, none⟩) 1 1 ∧ W.heap[q]? = some (.cells (edCells av dv E.seq E.next E.wal) 41 (0, 0))
  | 6 => ∃ tv', v = .tuple #[.agg (verCells tv' r.2.seq r.2.next r.2.wal), .int .i64 r.1] ∧ Own B W tv' r.2.tabs
  | 7 => ∃ tv', v = .tuple #[.agg (verCells tv' r.2.seq r.2.next r.2.wal), .int .i64 r.1] ∧ Own B W tv' r.2.tabs
  | 8 => ∃ tv', v = .agg (verCells tv' r.2.seq r.2.next r.2.wal) ∧ Own B W tv' r.2.tabs
  | 9 => v = .int .i64 r.1
  | 10 => ∃ (vb : Nat) (cs : Array Value), v = .pointer (some ⟨vb, 0, none⟩) ∧ B ≤ vb ∧ W.heap[vb]? = some (.cells cs 38 (0, 0)) ∧ cs.size = 4
  | 12 => v = .int .i64 r.1
  | _ => True

theorem SCm.keep {B sb : Nat} {tv av dv : Value} {V : VerD} {E : EdD} {r : Int × VerD} : ∀ (j : Nat) (v : Value) (W W' : World), RCm W W' → SCm B sb tv av dv V E r j v W → SCm B sb tv av dv V E r j v W' := by
  intro j v W W' hR h
  unfold SCm at h
  split at h <;> first
    | exact h
    | (obtain ⟨q, h1, h2⟩ := h; exact ⟨q, h1, hR.keep _ _ _ _ h2 (by decide)⟩)
    | (obtain ⟨tv', h1, h2⟩ := h; exact ⟨tv', h1, hR.own h2⟩)
    | (obtain ⟨vb, cs, h1, h2, h3, h4⟩ := h; obtain ⟨cs', h5, h6⟩ := hR.ver _ _ h3 h4; exact ⟨vb, cs', h1, h2, h5, h6⟩)
    | (unfold SCm; split <;> first | trivial | (exfalso; simp_all))

def TCm (w1 : World) (r : Int × VerD) (l : Array Bool) (a : Act) (W : World) : Prop :=
  Grow w1 W ∧ (l.getD 11 false = true → ∃ (vb : Nat) (tv' : Value), a.tmps[5]? = some (.pointer (some ⟨vb, 0, none⟩)) ∧ w1.heap.size ≤ vb ∧ W.heap[vb]? = some (.cells (verCells tv' r.2.seq r.2.next r.2.wal) 38 (0, 0)) ∧ Own w1.heap.size W tv' r.2.tabs)
theorem TCm.vac {w1 : World} {r : Int × VerD} {l : Array Bool} {a' : Act} {W' : World} (i : Nat) (hi : i ≠ 11) (hny : l.getD 11 false = false) (h : Grow w1 W') : TCm w1 r (l.setIfInBounds i true) a' W' :=
  ⟨h, fun h => by rw [getD_set_ne false hi, hny] at h; cases h⟩
theorem TCm.next {w1 : World} {r : Int × VerD} {l : Array Bool} {a : Act} {W : World} {i d : Nat} {v : Value} (h : TCm w1 r l a W) (hi : i ≠ 11) (hd : d ≠ 5) : TCm w1 r (l.setIfInBounds i true) (a.put (some d) v) W :=
  ⟨h.1, fun hl => by
    obtain ⟨vb, tv', h1, h2⟩ := h.2 (by rw [getD_set_ne false hi] at hl; exact hl)
    exact ⟨vb, tv', tmp_ne hd h1, h2⟩⟩

theorem arr4 {cs : Array Value} (hs : cs.size = 4) : ∃ x0 x1 x2 x3, cs = #[x0, x1, x2, x3] := by
  obtain ⟨l⟩ := cs
  match l, hs with
  | [x0, x1, x2, x3], _ => exact ⟨_, _, _, _, rfl⟩

/-- What Commit does: the number of its error; the set, the disk. -/
def CmPost (Z B : Nat) (w : World) (p r : Nat) (f : Lk) (T K : Nat) (sb : Nat) (tv : Value) (V : VerD) (n : Nat) (q : List UInt8 × Nat) (E : EdD) (e : Ending) (w' : World) : Prop :=
  e = .returned (.int .i64 (applyD V E).1) ∧ Rl B w w' ∧
  (((applyD V E).1 = 0 ∧ ∃ tv' F', SetAt w' sb p tv' (applyD V E).2 n ∧ Own 0 w' tv' (applyD V E).2.tabs ∧ Dl Z B w' p r (f.set (manN n) (q.1 ++ frameD crcTab (encD E), (q.1 ++ frameD crcTab (encD E)).length)) (T + (frameD crcTab (encD E)).length) (K + 1) F') ∨
   ((applyD V E).1 ≠ 0 ∧ SetAt w' sb p tv V n ∧ ∃ F', Dl Z B w' p r f T K F'))

/-- 's.v = v'. -/
theorem set_ver {Z B : Nat} {w : World} {p r : Nat} {f : Lk} {T K : Nat} {F : Nat → Prop} {sb p' : Nat} {tv : Value} {V : VerD} {n : Int} (hS : SetAt w sb p' tv V n) (h : Dl Z B w p r f T K F) (hB : B ≤ sb) (tv' : Value) (V' : VerD) :
    SetAt ((((w.setCell ⟨sb, 1, none⟩ tv').setCell ⟨sb, 2, none⟩ (.int .u64 V'.seq)).setCell ⟨sb, 3, none⟩ (.int .i64 V'.next)).setCell ⟨sb, 4, none⟩ (.int .i64 V'.wal)) sb p' tv' V' n ∧
    Dl Z B ((((w.setCell ⟨sb, 1, none⟩ tv').setCell ⟨sb, 2, none⟩ (.int .u64 V'.seq)).setCell ⟨sb, 3, none⟩ (.int .i64 V'.next)).setCell ⟨sb, 4, none⟩ (.int .i64 V'.wal)) p r f T K F ∧
    Rl B w ((((w.setCell ⟨sb, 1, none⟩ tv').setCell ⟨sb, 2, none⟩ (.int .u64 V'.seq)).setCell ⟨sb, 3, none⟩ (.int .i64 V'.next)).setCell ⟨sb, 4, none⟩ (.int .i64 V'.wal)) := by
  have h1 : w.heap[sb]? = some (.cells (setCells p' tv V n) 58 (0, 0)) := hS
  have h2 := Go.Gl.setCell_heap h1 1 tv'
  have h3 := Go.Gl.setCell_heap h2 2 (.int .u64 V'.seq)
  have h4 := Go.Gl.setCell_heap h3 3 (.int .i64 V'.next)
  have h5 := Go.Gl.setCell_heap h4 4 (.int .i64 V'.wal)
  exact ⟨h5, (((h.setS h1 1 _).setS h2 2 _).setS h3 3 _).setS h4 4 _, (((Rl.set h1 hB 1 _).trans (Rl.set h2 hB 2 _)).trans (Rl.set h3 hB 3 _)).trans (Rl.set h4 hB 4 _)⟩

/-- What the regions behind Apply read. -/
abbrev S4 (sb p eb : Nat) (n : Int) (x0 x1 x2 x3 x4 : Value) (W : World) : Prop :=
  (W.cell? ⟨sb, 0, none⟩ = some (.pointer (some ⟨p, 0, none⟩)) ∧ W.cell? ⟨sb, 5, none⟩ = some (.int .i64 n) ∧ sb < W.heap.size) ∧
  (W.cell? ⟨eb, 0, none⟩ = some x0 ∧ W.cell? ⟨eb, 0 + 1, none⟩ = some x1 ∧ W.cell? ⟨eb, 0 + 2, none⟩ = some x2 ∧ W.cell? ⟨eb, 0 + 3, none⟩ = some x3 ∧ W.cell? ⟨eb, 0 + 4, none⟩ = some x4 ∧ eb < W.heap.size)
theorem s4_of {sb p eb : Nat} {tv : Value} {V : VerD} {n : Int} {x0 x1 x2 x3 x4 : Value} {W : World} (hS : SetAt W sb p tv V n) (hb : W.heap[eb]? = some (.cells #[x0, x1, x2, x3, x4] 41 (0, 0))) : S4 sb p eb n x0 x1 x2 x3 x4 W := by
  obtain ⟨c0, _, _, _, _, c5, ls⟩ := hS.cells
  obtain ⟨e0, e1, e2, e3, e4⟩ := cells5 hb
  exact ⟨⟨c0, c5, ls⟩, e0, e1, e2, e3, e4, lt_of_getElem? hb⟩

set_option maxRecDepth 100000 in
set_option maxHeartbeats 8000000 in
theorem commit_ok {Z B N : Nat} {w : World} {p r : Nat} {f : Lk} {T K : Nat} {F : Nat → Prop} {sb : Nat} {tv : Value} {V : VerD} {n : Nat} (hS : SetAt w sb p tv V n) {B' : Nat} (hown : Own B' w tv V.tabs) (hl : V.tabs.length ≤ 5000)
    {av dv : Value} {E : EdD} (hA : Tabs w av E.add) (hD : Ints w dv E.drop) (hal : E.add.length ≤ 5000) (hdl : E.drop.length ≤ 10000) (hk : keyN E.add ≤ 60000000) (hfit : (applyD V E).1 = 0 → EdFit E)
    (h : Dl Z B w p r f T K F) (hB : B ≤ sb) (hN : Nums N B w) (hn : n < N) (h6 : n < 1000000) {q : List UInt8 × Nat} (hq : f (manN n) = some q) (hroom : T + (frameD crcTab (encD E)).length ≤ Z) :
    Calls Tryz.prog 9 #[.pointer (some ⟨sb, 0, none⟩), .agg (edCells av dv E.seq E.next E.wal)] w (CmPost Z B w p r f T K sb tv V n q E) := by
  have hga : Grow w (w.alloc (.cells (edCells av dv E.seq E.next E.wal) 41)) := Grow.alloc _ _
  have hb := heap_alloc_new w (.cells (edCells av dv E.seq E.next E.wal) 41)
  have hS1 := hS.grow hga
  have hown1 := owns_grow hown hga
  have hA1 := hA.grow hga
  have hD1 := hD.grow hga
  have h1 := h.grow hga
  have hN1 := hN.grow hga h.base
  have hr1 := Rl.grow hga h.base
  have Hr1 := Lib.hid hr1
  obtain ⟨aa, ac, rfl, har⟩ := hA
  obtain ⟨da, dc, rfl, hdc, hdr⟩ := hD
  obtain ⟨ta, tc, rfl⟩ := own_slice hown
  have Hfit := Lib.hid hfit
  have Hq := Lib.hid hq
  clear hga hS hown h hN hr1 har hdr hfit hq
  obtain ⟨AP, hAP⟩ : ∃ x, x = applyD V E := ⟨_, rfl⟩
  have hAll : applyAllD V [E] = AP := by
    rw [applyAll_one]
    by_cases h0 : (applyD V E).1 = 0
    · rw [if_pos h0, hAP]; exact Prod.ext h0.symm rfl
    · rw [if_neg h0, hAP]; exact Prod.ext rfl (applyD_zero V E h0).symm
  have HAP := Lib.hid hAP
  have HAll := Lib.hid hAll
  clear hAP hAll
  go_enter Tryz.func9, Tryz.ntmps9
  go_upto_region 1 with fail
  generalize w.alloc (.cells (edCells (.slice aa E.add.length ac) (.slice da E.drop.length dc) E.seq E.next E.wal) 41) = w1 at *
  generalize w.heap.size = eb at *
  go_cut [5, 6] from 7 to 16 (fun pv cv wx => ∃ (vb : Nat) (tv' : Value), pv = .pointer (some ⟨vb, 0, none⟩) ∧ cv = .int .i64 AP.1 ∧ wx.heap[vb]? = some (.cells (verCells tv' AP.2.seq AP.2.next AP.2.wal) 38 (0, 0)) ∧ Own w1.heap.size wx tv' AP.2.tabs ∧ Grow w1 wx)
  case first =>
    rename_i J K hJ hK
    refine wp_frame (fun a0 ha0 => ?_)
    have F0 : a0.tmps[0]? = some (.pointer (some ⟨sb, 0, none⟩)) := by rw [ha0]; rfl
    have F3 : a0.tmps[3]? = some (.pointer (some ⟨eb, 0, none⟩)) := by rw [ha0]; rfl
    have hsz : a0.tmps.size = 52 := by rw [ha0]; rfl
    have Hrest : Hid (∀ a1 wx (vb : Nat) (tv' : Value), FrameBut [8, 9, 10, 11, 12, 13, 14, 7, 15, 16, 5, 6] a0 a1 → a1.tmps[5]? = some (.pointer (some ⟨vb, 0, none⟩)) → a1.tmps[6]? = some (.int .i64 AP.1) → wx.heap[vb]? = some (.cells (verCells tv' AP.2.seq AP.2.next AP.2.wal) 38 (0, 0)) → Own w1.heap.size wx tv' AP.2.tabs → Grow w1 wx → K a1 wx) := Lib.hid (fun a1 wx vb tv' ha h1 h2 h3 h4 h5 => by
      refine hK _ _ (hJ _ _ ?_)
      refine ⟨a1.tmps.getD 5 undef, a1.tmps.getD 6 undef, a1.tmps.getD 7 undef, a1.tmps.getD 8 undef, a1.tmps.getD 9 undef, a1.tmps.getD 10 undef, a1.tmps.getD 11 undef, a1.tmps.getD 12 undef, a1.tmps.getD 13 undef, a1.tmps.getD 14 undef, a1.tmps.getD 15 undef, a1.tmps.getD 16 undef, ⟨vb, tv', by rw [Array.getD_eq_getD_getElem?, h1]; rfl, by rw [Array.getD_eq_getD_getElem?, h2]; rfl, h3, h4, h5⟩, ha.fill.trans ?_⟩
      subst ha0
      kernel_rfl)
    clear ha0 hK hJ
    refine wp_region_flow (SCm w1.heap.size sb (.slice ta V.tabs.length tc) (.slice aa E.add.length ac) (.slice da E.drop.length dc) V E AP) (TCm w1 AP) RCm [8, 9, 10, 11, 12, 13, 14, 7, 15, 16, 5, 6] (by kernel_rfl) (by kernel_rfl) (by rw [hsz]; rfl) SCm.keep ⟨Grow.drew w1, fun h => by cases h⟩ ?_ (fun a1 W1 hf => ?_)
    rotate_left
    · obtain ⟨vb, tv', h1, h2, h3, h4⟩ := hf.world.2 (by rfl)
      obtain ⟨v, hv, hq12⟩ := hf.slot 12 6 (by rfl) (by rfl)
      exact Hrest.out a1 W1 vb tv' hf.alike h1 (by rw [hv]; exact congrArg some hq12) h3 h4 hf.world.1
    clear Hrest
    refine ⟨?_, ?_, ?_, ?_, ?_, ?_, ?_, ?_, ?_, ?_, ?_, ?_, ?_, True.intro⟩
    · intro listed a W hf hun haf
      have hs1 : a.tmps.size = 52 := hf.alike.size.trans hsz
      have hT := hf.world
      have hG : Grow w1 W := hT.1
      have hny := not_yet hf.closed (n := 8) (e := 11) (i := 0) (by kernel_rfl) hun
      have G0 : a.tmps[0]'(by rw [hs1]; decide) = .pointer (some ⟨sb, 0, none⟩) := tmp_get ((hf.alike.same 0 (by decide)).trans F0) _
      refine wpOp_act rfl (by rfl) (fun K' hK' => ?_)
      go_simp
      exact hK' _ _ ⟨_, rfl, (fun _ _ => rfl), RCm.refl _, TCm.vac 0 (by decide) hny hG⟩
    · intro listed a W hf hun haf
      have hs1 : a.tmps.size = 52 := hf.alike.size.trans hsz
      have hT := hf.world
      have hG : Grow w1 W := hT.1
      have hny := not_yet hf.closed (n := 8) (e := 11) (i := 1) (by kernel_rfl) hun
      obtain ⟨v0, s0, q0⟩ := hf.slot 0 8 rfl (after_listed haf 0 (by kernel_rfl))
      have q0' : v0 = _ := q0
      subst q0'
      have G8 := tmp_get s0 (by rw [hs1]; decide)
      obtain ⟨_, _, _, _, _, _, ls⟩ := (hS1.grow hG).cells
      refine wpOp_act rfl (by rfl) (fun K' hK' => ?_)
      go_simp
      exact hK' _ _ ⟨_, rfl, (fun _ _ => rfl), RCm.refl _, TCm.vac 1 (by decide) hny hG⟩
    · intro listed a W hf hun haf
      have hs1 : a.tmps.size = 52 := hf.alike.size.trans hsz
      have hT := hf.world
      have hG : Grow w1 W := hT.1
      have hny := not_yet hf.closed (n := 8) (e := 11) (i := 2) (by kernel_rfl) hun
      obtain ⟨v1, s1, q1⟩ := hf.slot 1 9 rfl (after_listed haf 1 (by kernel_rfl))
      have q1' : v1 = _ := q1
      subst q1'
      have G9 := tmp_get s1 (by rw [hs1]; decide)
      obtain ⟨_, _, _, _, _, _, ls⟩ := (hS1.grow hG).cells
      refine wpOp_act rfl (by rfl) (fun K' hK' => ?_)
      go_simp
      exact hK' _ _ ⟨_, rfl, (fun _ _ => rfl), RCm.refl _, TCm.vac 2 (by decide) hny hG⟩
    · intro listed a W hf hun haf
      have hs1 : a.tmps.size = 52 := hf.alike.size.trans hsz
      have hT := hf.world
      have hG : Grow w1 W := hT.1
      have hny := not_yet hf.closed (n := 8) (e := 11) (i := 3) (by kernel_rfl) hun
      obtain ⟨v2, s2, q2⟩ := hf.slot 2 10 rfl (after_listed haf 2 (by kernel_rfl))
      have q2' : v2 = _ := q2
      subst q2'
      have G10 := tmp_get s2 (by rw [hs1]; decide)
      obtain ⟨_, c1, c2, c3, c4, _, ls⟩ := (hS1.grow hG).cells
      refine wpOp_act rfl (by rfl) (fun K' hK' => ?_)
      go_simp
      exact hK' _ _ ⟨_, rfl, (fun _ _ => rfl), RCm.refl _, TCm.vac 3 (by decide) hny hG⟩
    · intro listed a W hf hun haf
      have hs1 : a.tmps.size = 52 := hf.alike.size.trans hsz
      have hT := hf.world
      have hG : Grow w1 W := hT.1
      have hny := not_yet hf.closed (n := 8) (e := 11) (i := 4) (by kernel_rfl) hun
      have G3 : a.tmps[3]'(by rw [hs1]; decide) = .pointer (some ⟨eb, 0, none⟩) := tmp_get ((hf.alike.same 3 (by decide)).trans F3) _
      have hbW := hG.heap hb
      obtain ⟨e0, e1, e2, e3, e4⟩ := cells5 hbW
      have lb := lt_of_getElem? hbW
      refine wpOp_act rfl (by rfl) (fun K' hK' => ?_)
      go_simp
      exact hK' _ _ ⟨_, rfl, (fun _ _ => rfl), RCm.refl _, TCm.vac 4 (by decide) hny hG⟩
    · intro listed a W hf hun haf
      have hs1 : a.tmps.size = 52 := hf.alike.size.trans hsz
      have hT := hf.world
      have hG : Grow w1 W := hT.1
      have hny := not_yet hf.closed (n := 8) (e := 11) (i := 5) (by kernel_rfl) hun
      obtain ⟨v4, s4, q4⟩ := hf.slot 4 12 rfl (after_listed haf 4 (by kernel_rfl))
      have q4' : v4 = _ := q4
      subst q4'
      have G12 := tmp_get s4 (by rw [hs1]; decide)
      have hrun := run_buildE1 W aa E.add.length ac da E.drop.length dc E.seq E.next E.wal
      refine wpOp_act rfl (by rfl) (fun K' hK' => ?_)
      go_simp
      exact hK' _ _ ⟨_, rfl, (fun _ _ => ⟨W.heap.size, rfl, heap_alloc_new _ _⟩), RCm.grow (Grow.alloc _ _), TCm.vac 5 (by decide) hny (hG.trans (Grow.alloc _ _))⟩
    · intro listed a W hf hun haf
      have hs1 : a.tmps.size = 52 := hf.alike.size.trans hsz
      have hT := hf.world
      have hG : Grow w1 W := hT.1
      have hny := not_yet hf.closed (n := 8) (e := 11) (i := 6) (by kernel_rfl) hun
      obtain ⟨v3, s3, q3⟩ := hf.slot 3 11 rfl (after_listed haf 3 (by kernel_rfl))
      have q3' : v3 = _ := q3
      subst q3'
      have G11 := tmp_get s3 (by rw [hs1]; decide)
      obtain ⟨v5, s5, qq, q5, hqq⟩ := hf.slot 5 13 rfl (after_listed haf 5 (by kernel_rfl))
      subst q5
      have G13 := tmp_get s5 (by rw [hs1]; decide)
      have hap := Apply_any apply_ok (owns_grow hown1 hG) hl (edits_one hqq (hA1.grow hG) (hD1.grow hG)) (by simp) (by intro e he; rw [List.mem_singleton.1 he]; exact ⟨hal, hdl⟩)
      rw [HAll.out] at hap
      refine wpOp_call rfl (by rfl) (by go_simp) hap ?_
      rintro e W2 ⟨tv', rfl, ho, hg2⟩
      exact ⟨_, rfl, _, rfl, (fun _ _ => ⟨tv', rfl, owns_mono ho hG.size⟩), RCm.grow hg2, TCm.vac 6 (by decide) hny (hG.trans hg2)⟩
    · intro listed a W hf hun haf
      have hs1 : a.tmps.size = 52 := hf.alike.size.trans hsz
      have hT := hf.world
      have hG : Grow w1 W := hT.1
      have hny := not_yet hf.closed (n := 8) (e := 11) (i := 7) (by kernel_rfl) hun
      obtain ⟨v6, s6, tv', q6, ho⟩ := hf.slot 6 14 rfl (after_listed haf 6 (by kernel_rfl))
      subst q6
      have G14 := tmp_get s6 (by rw [hs1]; decide)
      refine wpOp_act rfl (by rfl) (fun K' hK' => ?_)
      go_simp
      exact hK' _ _ ⟨_, rfl, (fun _ _ => ⟨tv', rfl, ho⟩), RCm.refl _, TCm.vac 7 (by decide) hny hG⟩
    · intro listed a W hf hun haf
      have hs1 : a.tmps.size = 52 := hf.alike.size.trans hsz
      have hT := hf.world
      have hG : Grow w1 W := hT.1
      have hny := not_yet hf.closed (n := 8) (e := 11) (i := 8) (by kernel_rfl) hun
      obtain ⟨v7, s7, tv', q7, ho⟩ := hf.slot 7 7 rfl (after_listed haf 7 (by kernel_rfl))
      subst q7
      have G7 := tmp_get s7 (by rw [hs1]; decide)
      refine wpOp_act rfl (by rfl) (fun K' hK' => ?_)
      go_simp
      exact hK' _ _ ⟨_, rfl, (fun _ _ => ⟨tv', rfl, ho⟩), RCm.refl _, TCm.vac 8 (by decide) hny hG⟩
    · intro listed a W hf hun haf
      have hs1 : a.tmps.size = 52 := hf.alike.size.trans hsz
      have hT := hf.world
      have hG : Grow w1 W := hT.1
      obtain ⟨v7, s7, tv', q7, ho⟩ := hf.slot 7 7 rfl (after_listed haf 7 (by kernel_rfl))
      subst q7
      have G7 := tmp_get s7 (by rw [hs1]; decide)
      refine wpOp_act rfl (by rfl) (fun K' hK' => ?_)
      go_simp
      exact hK' _ _ ⟨_, rfl, (fun _ _ => rfl), RCm.refl _, TCm.next hT (by decide) (by decide)⟩
    · intro listed a W hf hun haf
      have hs1 : a.tmps.size = 52 := hf.alike.size.trans hsz
      have hT := hf.world
      have hG : Grow w1 W := hT.1
      have hny := not_yet hf.closed (n := 8) (e := 11) (i := 10) (by kernel_rfl) hun
      refine wpOp_act rfl (by rfl) (fun K' hK' => ?_)
      go_simp
      exact hK' _ (W.alloc (.cells (verCells (.slice none 0 0) 0 0 0) 38)) ⟨_, rfl, (fun _ _ => ⟨W.heap.size, _, rfl, hG.size, heap_alloc_new _ _, rfl⟩), RCm.grow (Grow.alloc _ _), TCm.vac 10 (by decide) hny (hG.trans (Grow.alloc _ _))⟩
    · intro listed a W hf hun haf
      have hs1 : a.tmps.size = 52 := hf.alike.size.trans hsz
      have hT := hf.world
      have hG : Grow w1 W := hT.1
      obtain ⟨v8, s8, tv', q8, ho⟩ := hf.slot 8 15 rfl (after_listed haf 8 (by kernel_rfl))
      obtain ⟨xa, xc, rfl⟩ := own_slice ho
      subst q8
      have G15 := tmp_get s8 (by rw [hs1]; decide)
      obtain ⟨v10, s10, vb, cs, q10, b10, h10, z10⟩ := hf.slot 10 5 rfl (after_listed haf 10 (by kernel_rfl))
      subst q10
      have G5 := tmp_get s10 (by rw [hs1]; decide)
      obtain ⟨x0, x1, x2, x3, rfl⟩ := arr4 z10
      obtain ⟨t0, t1, t2, t3⟩ := cells4 h10
      have lt10 := lt_of_getElem? h10
      have fr10 : ∀ i, W.frozen? ⟨vb, i, none⟩ = false := fun i => by simp [World.frozen?, h10]
      have hset := set4 h10 (.slice xa AP.2.tabs.length xc) (.int .u64 AP.2.seq) (.int .i64 AP.2.next) (.int .i64 AP.2.wal)
      have hoth := fun (c : Nat) (hc : c ≠ vb) => set4_other (w := W) hc (.slice xa AP.2.tabs.length xc) (.int .u64 AP.2.seq) (.int .i64 AP.2.next) (.int .i64 AP.2.wal)
      have hown' := set4_own ho h10 (.slice xa AP.2.tabs.length xc) (.int .u64 AP.2.seq) (.int .i64 AP.2.next) (.int .i64 AP.2.wal)
      have hgr := set4_below hG b10 (.slice xa AP.2.tabs.length xc) (.int .u64 AP.2.seq) (.int .i64 AP.2.next) (.int .i64 AP.2.wal)
      refine wpOp_act rfl (by rfl) (fun K' hK' => ?_)
      go_simp
      refine hK' _ _ ⟨undef, rfl, (fun _ h => by cases h), ⟨fun b arr t fz hb' ht => ?_, fun b cs hb' hs => ?_⟩, ⟨hgr, fun _ => ⟨vb, _, s10, b10, hset, hown'⟩⟩⟩
      · rw [hoth b (ne_type hb' h10 ht)]; exact hb'
      · by_cases e : b = vb
        · subst e; exact ⟨_, hset, rfl⟩
        · exact ⟨cs, (hoth b e).trans hb', hs⟩
    · intro listed a W hf hun haf
      have hs1 : a.tmps.size = 52 := hf.alike.size.trans hsz
      have hT := hf.world
      have hG : Grow w1 W := hT.1
      obtain ⟨v9, s9, q9⟩ := hf.slot 9 16 rfl (after_listed haf 9 (by kernel_rfl))
      have q9' : v9 = _ := q9
      subst q9'
      have G16 := tmp_get s9 (by rw [hs1]; decide)
      refine wpOp_act rfl (by rfl) (fun K' hK' => ?_)
      go_simp
      exact hK' _ _ ⟨_, rfl, (fun _ _ => rfl), RCm.refl _, TCm.next hT (by decide) (by decide)⟩
  case rest =>
  obtain ⟨vb, tv', rfl, rfl, hvb, hov, hg2⟩ := hcut
  have hb2 := hg2.heap hb
  have hS2 := hS1.grow hg2
  have h2 := h1.grow hg2
  have hN2 := hN1.grow hg2 h1.base
  have hr2 := Hr1.out.trans (Rl.grow hg2 h1.base)
  have HS2 := Lib.hid hS2
  have H2 := Lib.hid h2
  have HN2 := Lib.hid hN2
  have Hr2 := Lib.hid hr2
  have Hb2 := Lib.hid hb2
  have Hvb := Lib.hid hvb
  have Hov := Lib.hid hov
  have HA2 := Lib.hid (hA1.grow hg2)
  have HD2 := Lib.hid (hD1.grow hg2)
  clear hb2 hS2 h2 hN2 hr2 hvb hov hg2 hb hS1 hown1 hA1 hD1 h1 hN1 Hr1
  by_cases h0 : AP.1 = 0
  · have e1 : (AP.1 != 0) = false := by simpa using h0
    have HE := Lib.hid (Hfit.out (by rw [← HAP.out]; exact h0))
    have H0 := Lib.hid h0
    clear h0
    go_upto_region 4 with fail
    refine wp_region_pi (S4 sb p eb n (.slice aa E.add.length ac) (.slice da E.drop.length dc) (.int .u64 E.seq) (.int .i64 E.next) (.int .i64 E.wal)) [(0, false), (1, false), (2, false), (3, false), (4, false), (5, false), (6, false), (7, false), (9, false), (8, true), (10, true), (11, true), (12, true), (13, true), (14, false)] (by kernel_rfl) (by kernel_rfl) (fun c a d v w h => by cases d <;> exact h) (s4_of (HS2.out.grow (Grow.drew _)) ((Grow.drew _).heap Hb2.out)) ?_
    simp only [arrange, nth]
    repeat (first | (refine wpPi_quiet (v := ?_) (by rfl) (fun W hW => ?_) ?_; rotate_left; (obtain ⟨⟨hW0, hW1, hW2⟩, hW3, hW4, hW5, hW6, hW7, hW8⟩ := hW; go_simp; with_reducible rfl); simp only [Act.put, List.setIfInBounds_toArray, List.set_cons_zero, List.set_cons_succ]) | (refine wpPi_off (by rfl) ?_; simp only [Act.put, List.setIfInBounds_toArray, List.set_cons_zero, List.set_cons_succ]))
    have hgd := Grow.drew wc
    refine wpPi_call (by rfl) (by go_simp) (mname_any (HN2.out.grow hgd H2.out.base) hn h6) ?_
    rintro e w3 ⟨rfl, hg3⟩
    have hg23 := hgd.trans hg3
    refine ⟨_, rfl, s4_of (HS2.out.grow hg23) (hg23.heap Hb2.out), ?_⟩
    try simp only [Act.put, List.setIfInBounds_toArray, List.set_cons_zero, List.set_cons_succ]
    refine wpPi_call (by rfl) (by go_simp) (encode_any HE.out (HA2.out.grow hg23) (HD2.out.grow hg23) (by omega)) ?_
    rintro e w4 ⟨v4, rfl, ho4, hg4⟩
    have hg24 := hg23.trans hg4
    refine ⟨_, rfl, s4_of (HS2.out.grow hg24) (hg24.heap Hb2.out), ?_⟩
    try simp only [Act.put, List.setIfInBounds_toArray, List.set_cons_zero, List.set_cons_succ]
    have hel : (encD E).length ≤ 67108864 := by have := encD_len E; omega
    refine wpPi_call (by rfl) (by go_simp) (frame_any (ownB_bv ho4) hel) ?_
    rintro e w5 ⟨v5, rfl, ho5, hg5⟩
    have hg25 := hg24.trans hg5
    refine ⟨_, rfl, s4_of (HS2.out.grow hg25) (hg25.heap Hb2.out), ?_⟩
    try simp only [Act.put, List.setIfInBounds_toArray, List.set_cons_zero, List.set_cons_succ]
    obtain ⟨X, hX⟩ : ∃ x, x = frameD crcTab (encD E) := ⟨_, rfl⟩
    rw [← hX] at ho5 hroom
    have hbv5 := ownB_bv ho5
    obtain ⟨va, vc, rfl⟩ := ho5.slice
    have hga := Grow.alloc w5 (.cells #[.slice va X.length vc] 69)
    have hg26 := hg25.trans hga
    refine wpPi_run (by rfl) (execOp_buildSlice1 (v := .slice va X.length vc) rfl Tryz.underlying83 Tryz.infoR rfl rfl rfl) (s4_of (HS2.out.grow hg26) (hg26.heap Hb2.out)) ?_
    try simp only [Act.put, List.setIfInBounds_toArray, List.set_cons_zero, List.set_cons_succ]
    have hd6 := H2.out.grow hg26
    refine wpPi_call (by rfl) (by go_simp) (dl_app hd6 (man_ok h6) (heap_alloc_new _ _) (hbv5.grow hga) hroom) ?_
    rintro e w7 ⟨rfl, F7, hd7, hs7⟩
    have hS7 := (HS2.out.grow hg26).sep hd6 hs7
    have hr7 := (Hr2.out.trans (Rl.grow hg26 H2.out.base)).trans (Rl.sep hd6 hs7)
    have hh7 := ((Rl.grow hg26 H2.out.base).trans (Rl.sep hd6 hs7)).hold
    have hb7 := hh7.keep _ _ _ _ Hb2.out (by unfold Soft; decide)
    have hv7 := hh7.keep _ _ _ _ Hvb.out (by unfold Soft; decide)
    have ho7 := own_hold Hov.out hh7
    refine ⟨_, rfl, s4_of hS7 hb7, ?_⟩
    try simp only [Act.put, List.setIfInBounds_toArray, List.set_cons_zero, List.set_cons_succ]
    repeat (first | (refine wpPi_quiet (v := ?_) (by rfl) (fun W hW => ?_) ?_; rotate_left; (obtain ⟨⟨hW0, hW1, hW2⟩, hW3, hW4, hW5, hW6, hW7, hW8⟩ := hW; go_simp; with_reducible rfl); simp only [Act.put, List.setIfInBounds_toArray, List.set_cons_zero, List.set_cons_succ]) | (refine wpPi_off (by rfl) ?_; simp only [Act.put, List.setIfInBounds_toArray, List.set_cons_zero, List.set_cons_succ]))
    refine wpPi_nil ?_
    have hadd : f.add (manN n) X = f.set (manN n) (q.1 ++ X, q.2) := by unfold Lk.add; rw [Hq.out]
    rw [hadd] at hd7
    have HS7 := Lib.hid hS7
    have Hd7 := Lib.hid hd7
    have Hr7 := Lib.hid hr7
    have Hv7 := Lib.hid hv7
    have Ho7 := Lib.hid ho7
    have HX := Lib.hid hX
    have hN7 : Nums N B w7 := HN2.out.keep (fun b hb => ((Rl.grow hg26 H2.out.base).trans (Rl.sep hd6 hs7)).below.block b hb)
    have HN7 := Lib.hid hN7
    clear hgd hg3 hg23 hg4 hg24 hg5 hg25 hga hg26 hd6 hs7 hS7 hr7 hh7 hb7 hv7 ho7 hadd hd7 ho4 ho5 hbv5 hX hN7 hel HS2 H2 HN2 Hr2 Hb2 Hvb Hov HA2 HD2 e1
    go_upto_region 7 with fail
    obtain ⟨c0, _, _, _, _, c5, ls⟩ := HS7.out.cells
    refine wp_region_pi (fun W => W.cell? ⟨sb, 0, none⟩ = some (.pointer (some ⟨p, 0, none⟩)) ∧ W.cell? ⟨sb, 5, none⟩ = some (.int .i64 (n : Int)) ∧ sb < W.heap.size) [(0, false), (1, false), (2, false), (3, false), (4, false), (5, false), (6, false), (7, false), (8, true), (9, true), (10, true)] (by kernel_rfl) (by kernel_rfl) (fun c a d v w h => by cases d <;> exact h) ⟨by simpa using c0, by simpa using c5, by simpa using ls⟩ ?_
    simp only [arrange, nth]
    clear c0 c5 ls
    repeat (first | (refine wpPi_quiet (v := ?_) (by rfl) (fun W hW => ?_) ?_; rotate_left; (obtain ⟨hW0, hW1, hW2⟩ := hW; go_simp; with_reducible rfl); simp only [Act.put, List.setIfInBounds_toArray, List.set_cons_zero, List.set_cons_succ]) | (refine wpPi_off (by rfl) ?_; simp only [Act.put, List.setIfInBounds_toArray, List.set_cons_zero, List.set_cons_succ]))
    have hgd := Grow.drew w7
    refine wpPi_call (by rfl) (by go_simp) (mname_any (HN7.out.grow hgd Hd7.out.base) hn h6) ?_
    rintro e w8 ⟨rfl, hg8⟩
    have hg78 := hgd.trans hg8
    obtain ⟨c0, _, _, _, _, c5, ls⟩ := (HS7.out.grow hg78).cells
    refine ⟨_, rfl, ⟨c0, c5, ls⟩, ?_⟩
    try simp only [Act.put, List.setIfInBounds_toArray, List.set_cons_zero, List.set_cons_succ]
    have hga := Grow.alloc w8 (.cells #[.string (manN n)] 9)
    have hg79 := hg78.trans hga
    obtain ⟨c0', _, _, _, _, c5', ls'⟩ := (HS7.out.grow hg79).cells
    refine wpPi_run (by rfl) (execOp_buildSlice1 (v := .string (manN n)) rfl Tryz.underlying60 Tryz.infoStr rfl rfl rfl) ⟨c0', c5', ls'⟩ ?_
    try simp only [Act.put, List.setIfInBounds_toArray, List.set_cons_zero, List.set_cons_succ]
    have hd9 := Hd7.out.grow hg79
    refine wpPi_call (by rfl) (by go_simp) (dl_sync hd9 (lk_set_same _ _ _) (heap_alloc_new _ _)) ?_
    rintro e wa ⟨rfl, Fa, hda, hsa⟩
    rw [lk_set_set] at hda
    have hSa := (HS7.out.grow hg79).sep hd9 hsa
    have hra1 := (Rl.grow hg79 Hd7.out.base).trans (Rl.sep hd9 hsa)
    have hva := hra1.hold.keep _ _ _ _ Hv7.out (by unfold Soft; decide)
    have hoa := own_hold Ho7.out hra1.hold
    obtain ⟨g0, _, _, _, _, g5, lg⟩ := hSa.cells
    refine ⟨_, rfl, ⟨g0, g5, lg⟩, ?_⟩
    try simp only [Act.put, List.setIfInBounds_toArray, List.set_cons_zero, List.set_cons_succ]
    refine wpPi_nil ?_
    obtain ⟨xa, xc, rfl⟩ := own_slice hoa
    obtain ⟨y0, y1, y2, y3⟩ := cells4 hva
    have lva := lt_of_getElem? hva
    have hSa' : wa.heap[sb]? = some (.cells (setCells p (.slice ta V.tabs.length tc) V n) 58 (0, 0)) := hSa
    have fa : ∀ i, wa.frozen? ⟨sb, i, none⟩ = false := fun i => by simp [World.frozen?, hSa']
    obtain ⟨_, z1, z2, z3, z4, _, lsa⟩ := hSa.cells
    obtain ⟨k1, k2, k3⟩ := set_ver hSa hda hB (.slice xa AP.2.tabs.length xc) AP.2
    have Hend := Lib.hid (And.intro k1 (And.intro k2 (And.intro ((Hr7.out.trans hra1).trans k3) (own_hold (owns_mono hoa (Nat.zero_le _)) k3.hold))))
    clear hgd hg8 hg78 hga hg79 hd9 hda hsa hSa hra1 hva hoa c0 c5 ls c0' c5' ls' g0 g5 lg hSa' k1 k2 k3 HS7 Hd7 Hr7 Hv7 Ho7 HN7
    go_wp2
    go_ret
    refine ⟨by rw [← HAP.out, H0.out]; rfl, Hend.out.2.2.1, .inl ⟨by rw [← HAP.out]; exact H0.out, .slice xa AP.2.tabs.length xc, Fa, ?_⟩⟩
    rw [← HAP.out, ← HX.out]
    exact ⟨Hend.out.1, Hend.out.2.2.2, Hend.out.2.1⟩
  · have e1 : (AP.1 != 0) = true := by simpa using h0
    have H0 := Lib.hid h0
    clear h0
    go_wp2
    go_ret
    exact ⟨by rw [← HAP.out]; rfl, Hr2.out, .inr ⟨by rw [← HAP.out]; exact H0.out, HS2.out, _, H2.out⟩⟩
end Go.Proofs.YtejpcoghkgjanaaGreatDoor
