/- Merged out of MK2, Mo: helpers. -/
import Derived.Test.YtejpcoghkgjanaaGreatDoorVJ
import Derived.Test.YtejpcoghkgjanaaGreatDoorVH
import Derived.Deep.Slices
import Derived.Lib.SmallJoins
/- known: its walk. -/
namespace Go.Proofs.YtejpcoghkgjanaaGreatDoor.Mn
open Go.RowKit Go.Gl

set_option maxRecDepth 100000 in
set_option maxHeartbeats 4000000 in
theorem known_any (hA : ApplyOk) (w : World) : Calls Tryz.prog 4 #[] w fun e w' => e = .returned (.bool true) ∧ Grow w w' := by
  have HA := Lib.hid hA
  clear hA
  go_enter Tryz.func4, Tryz.ntmps4
  go_wp2_with fail
  (with_reducible refine (table_any 1 1 ⟨#[97]⟩ ⟨#[99]⟩ _).mono ?_)
  rintro e w1 ⟨rfl, hg1⟩
  go_wp2_with fail
  have hga : Grow w1 (w1.alloc (.cells #[.int .i64 1, .int .i64 1, .string ⟨#[97]⟩, .string ⟨#[99]⟩, .int .i64 0] 51)) := Grow.alloc _ _
  have hgb : Grow (w1.alloc (.cells #[.int .i64 1, .int .i64 1, .string ⟨#[97]⟩, .string ⟨#[99]⟩, .int .i64 0] 51)) ((w1.alloc (.cells #[.int .i64 1, .int .i64 1, .string ⟨#[97]⟩, .string ⟨#[99]⟩, .int .i64 0] 51)).alloc (.cells (edCells (.slice (some ⟨w1.heap.size, 0, none⟩) 1 1) (.slice none 0 0) 0 2 0) 41)) := Grow.alloc _ _
  have hta := heap_alloc_new w1 (.cells #[.int .i64 1, .int .i64 1, .string ⟨#[97]⟩, .string ⟨#[99]⟩, .int .i64 0] 51)
  have heb := heap_alloc_new (w1.alloc (.cells #[.int .i64 1, .int .i64 1, .string ⟨#[97]⟩, .string ⟨#[99]⟩, .int .i64 0] 51)) (.cells (edCells (.slice (some ⟨w1.heap.size, 0, none⟩) 1 1) (.slice none 0 0) 0 2 0) 41)
  have hsz : (w1.alloc (.cells #[.int .i64 1, .int .i64 1, .string ⟨#[97]⟩, .string ⟨#[99]⟩, .int .i64 0] 51)).heap.size = w1.heap.size + 1 := by simp
  rw [hsz] at heb
  have hcall := Apply_any HA.out (B := 0) (V := verZero) (World.ownsRow_nil _ _ _ _) (by decide) (edits_one (e := kE1) heb (tabs_one (t := kt1) (hgb.heap hta)) (ints_nil _)) (by decide) (by decide)
  rw [k1] at hcall
  dsimp only [verZero] at hcall
  (with_reducible refine hcall.mono ?_)
  rintro e w2 ⟨cv, rfl, hown2, hg2⟩
  have hg02 : Grow w w2 := (hg1.trans (hga.trans hgb)).trans hg2
  obtain ⟨ca, cc, rfl⟩ := own_slice hown2
  have Hown2 := Lib.hid (owns_mono hown2 (Nat.zero_le _))
  have Hg02 := Lib.hid hg02
  clear hcall hga hgb hta heb hsz hg1 hg2 hg02 hown2
  go_upto_region 2 with fail

  have hvb : (w2.alloc (.cells (verCells (.slice ca kV.tabs.length cc) kV.seq kV.next kV.wal) 38)).heap[w2.heap.size]? = some (.cells (verCells (.slice ca kV.tabs.length cc) kV.seq kV.next kV.wal) 38 (0, 0)) := heap_alloc_new _ _
  have hto : Grow w2 (w2.alloc (.cells (verCells (.slice ca kV.tabs.length cc) kV.seq kV.next kV.wal) 38)) := Grow.alloc _ _
  generalize w2.heap.size = vb at *
  have Hvb := Lib.hid hvb
  have Hto := Lib.hid hto
  have lv := lt_of_getElem? hvb
  clear hvb hto
  generalize w2.alloc (.cells (verCells (.slice ca kV.tabs.length cc) kV.seq kV.next kV.wal) 38) = w3 at *
  go_cut [4] from 18 to 26 (fun c wx => c = .int .i64 15 ∧ Grow w3 wx)
  case first =>
    rename_i J K hJ hK
    refine wp_frame (fun a0 ha0 => ?_)
    have F1 : a0.tmps[1]? = some (.pointer (some ⟨vb, 0, none⟩)) := by rw [ha0]; rfl
    have hsz : a0.tmps.size = 73 := by rw [ha0]; rfl
    have Hrest : Hid (∀ a1 wx, FrameBut [3, 4, 18, 19, 20, 21, 22, 23, 24, 25, 26] a0 a1 → a1.tmps[4]? = some (.int .i64 15) → Grow w3 wx → K a1 wx) := Lib.hid (fun a1 wx ha h1 h2 => by
      refine hK _ _ (hJ _ _ ?_)
      refine ⟨a1.tmps.getD 3 undef, a1.tmps.getD 4 undef, a1.tmps.getD 18 undef, a1.tmps.getD 19 undef, a1.tmps.getD 20 undef, a1.tmps.getD 21 undef, a1.tmps.getD 22 undef, a1.tmps.getD 23 undef, a1.tmps.getD 24 undef, a1.tmps.getD 25 undef, a1.tmps.getD 26 undef, ⟨by rw [Array.getD_eq_getD_getElem?, h1]; rfl, h2⟩, ha.fill.trans ?_⟩
      subst ha0
      kernel_rfl)
    clear ha0 hK hJ
    refine wp_region_flow (SK w3 (.slice ca kV.tabs.length cc) kV kt2 (15, verZero)) (TK w3) RB [3, 4, 18, 19, 20, 21, 22, 23, 24, 25, 26] (by kernel_rfl) (by kernel_rfl) (by rw [hsz]; rfl) SK.keep (Grow.drew _) ?_ (fun a1 W hf => ?_)
    rotate_left
    · obtain ⟨v, hv, hq⟩ := hf.slot 11 4 (by rfl) (by rfl)
      have hq' : v = _ := hq
      rw [hq'] at hv
      exact Hrest.out a1 W hf.alike hv hf.world
    clear Hrest
    refine ⟨?_, ?_, ?_, ?_, ?_, ?_, ?_, ?_, ?_, ?_, ?_, ?_, True.intro⟩
    · intro listed a W hf hun haf
      have hs1 : a.tmps.size = 73 := hf.alike.size.trans hsz
      have hB : Below w3.heap.size w3 W := hf.world
      have G1 : a.tmps[1]'(by rw [hs1]; decide) = .pointer (some ⟨vb, 0, none⟩) := tmp_get ((hf.alike.same 1 (by decide)).trans F1) _
      have hv := hB.block _ lv
      rw [Hvb.out] at hv
      obtain ⟨x0, x1, x2, x3⟩ := cells4 hv
      have lW := lt_of_getElem? hv
      refine wpOp_act rfl (by rfl) (fun K' hK' => ?_)
      go_simp
      exact hK' _ _ ⟨_, rfl, (fun _ _ => rfl), RB.refl _, hB⟩
    · intro listed a W hf hun haf
      have hs1 : a.tmps.size = 73 := hf.alike.size.trans hsz
      have hB : Below w3.heap.size w3 W := hf.world
      refine wpOp_call rfl (by rfl) (by go_simp) (table_any 2 1 ⟨#[99]⟩ ⟨#[100]⟩ W) ?_
      rintro e w7 ⟨rfl, hg7⟩
      exact ⟨_, rfl, _, rfl, (fun _ _ => rfl), RB.grow hg7, hB.trans (hg7.mono hB.size)⟩
    · intro listed a W hf hun haf
      have hs1 : a.tmps.size = 73 := hf.alike.size.trans hsz
      have hB : Below w3.heap.size w3 W := hf.world
      obtain ⟨v1, s1, q1⟩ := hf.slot 1 20 rfl (after_listed haf 1 (by kernel_rfl))
      have q1' : v1 = _ := q1
      subst q1'
      have G20 := tmp_get s1 (by rw [hs1]; decide)
      refine wpOp_act rfl (by rfl) (fun K' hK' => ?_)
      go_simp
      exact hK' _ (W.alloc (.cells #[.int .i64 kt2.file, .int .i64 kt2.level, .string kt2.first, .string kt2.last, .int .i64 kt2.size] 51)) ⟨_, rfl, (fun _ _ => ⟨W.heap.size, rfl, heap_alloc_new _ _⟩), RB.grow (Grow.alloc _ _), hB.trans ((Grow.alloc _ _).mono hB.size)⟩
    · intro listed a W hf hun haf
      have hs1 : a.tmps.size = 73 := hf.alike.size.trans hsz
      have hB : Below w3.heap.size w3 W := hf.world
      obtain ⟨v2, s2, q2⟩ := hf.slot 2 21 rfl (after_listed haf 2 (by kernel_rfl))
      obtain ⟨b2, q2, c2⟩ := q2
      have q2' : v2 = _ := q2
      subst q2'
      have G21 := tmp_get s2 (by rw [hs1]; decide)
      refine wpOp_act rfl (by rfl) (fun K' hK' => ?_)
      go_simp
      exact hK' _ _ ⟨_, rfl, (fun _ _ => ⟨b2, rfl, c2⟩), RB.refl _, hB⟩
    · intro listed a W hf hun haf
      have hs1 : a.tmps.size = 73 := hf.alike.size.trans hsz
      have hB : Below w3.heap.size w3 W := hf.world
      obtain ⟨v3, s3, q3⟩ := hf.slot 3 22 rfl (after_listed haf 3 (by kernel_rfl))
      obtain ⟨b3, q3, c3⟩ := q3
      have q3' : v3 = _ := q3
      subst q3'
      have G22 := tmp_get s3 (by rw [hs1]; decide)
      refine wpOp_act rfl (by rfl) (fun K' hK' => ?_)
      go_simp
      exact hK' _ (W.alloc (.cells (edCells (.slice (some ⟨b3, 0, none⟩) 1 1) (.slice none 0 0) 0 0 0) 41)) ⟨_, rfl, (fun _ _ => ⟨W.heap.size, b3, rfl, heap_alloc_new _ _, (Grow.alloc _ _).heap c3⟩), RB.grow (Grow.alloc _ _), hB.trans ((Grow.alloc _ _).mono hB.size)⟩
    · intro listed a W hf hun haf
      have hs1 : a.tmps.size = 73 := hf.alike.size.trans hsz
      have hB : Below w3.heap.size w3 W := hf.world
      obtain ⟨v0, s0, q0⟩ := hf.slot 0 19 rfl (after_listed haf 0 (by kernel_rfl))
      have q0' : v0 = _ := q0
      subst q0'
      have G19 := tmp_get s0 (by rw [hs1]; decide)
      obtain ⟨v4, s4, q4⟩ := hf.slot 4 23 rfl (after_listed haf 4 (by kernel_rfl))
      obtain ⟨b4, t4, q4, c4, d4⟩ := q4
      have q4' : v4 = _ := q4
      subst q4'
      have G23 := tmp_get s4 (by rw [hs1]; decide)
      have hcall := Apply_any HA.out (B := 0) (V := kV) (owns_grow Hown2.out (Hto.out.trans hB)) (by decide) (edits_one (e := kE2) c4 (tabs_one (t := kt2) d4) (ints_nil _)) (by decide) (by decide)
      rw [k2] at hcall
      refine wpOp_call rfl (by rfl) (by go_simp) hcall ?_
      rintro e w7 ⟨v7, rfl, hown7, hg7⟩
      obtain ⟨ya, yc, rfl⟩ := own_slice hown7
      exact ⟨_, rfl, _, rfl, (fun _ _ => ⟨_, _, _, rfl⟩), RB.grow hg7, hB.trans (hg7.mono hB.size)⟩
    · intro listed a W hf hun haf
      have hs1 : a.tmps.size = 73 := hf.alike.size.trans hsz
      have hB : Below w3.heap.size w3 W := hf.world
      obtain ⟨v5, s5, q5⟩ := hf.slot 5 24 rfl (after_listed haf 5 (by kernel_rfl))
      obtain ⟨ya, yn, yc, q5⟩ := q5
      have q5' : v5 = _ := q5
      subst q5'
      have G24 := tmp_get s5 (by rw [hs1]; decide)
      refine wpOp_act rfl (by rfl) (fun K' hK' => ?_)
      go_simp
      exact hK' _ _ ⟨_, rfl, (fun _ _ => ⟨_, _, _, rfl⟩), RB.refl _, hB⟩
    · intro listed a W hf hun haf
      have hs1 : a.tmps.size = 73 := hf.alike.size.trans hsz
      have hB : Below w3.heap.size w3 W := hf.world
      obtain ⟨v6, s6, q6⟩ := hf.slot 6 18 rfl (after_listed haf 6 (by kernel_rfl))
      obtain ⟨ya, yn, yc, q6⟩ := q6
      have q6' : v6 = _ := q6
      subst q6'
      have G18 := tmp_get s6 (by rw [hs1]; decide)
      refine wpOp_act rfl (by rfl) (fun K' hK' => ?_)
      go_simp
      exact hK' _ _ ⟨_, rfl, (fun _ _ => ⟨_, _, _, rfl⟩), RB.refl _, hB⟩
    · intro listed a W hf hun haf
      have hs1 : a.tmps.size = 73 := hf.alike.size.trans hsz
      have hB : Below w3.heap.size w3 W := hf.world
      obtain ⟨v6, s6, q6⟩ := hf.slot 6 18 rfl (after_listed haf 6 (by kernel_rfl))
      obtain ⟨ya, yn, yc, q6⟩ := q6
      have q6' : v6 = _ := q6
      subst q6'
      have G18 := tmp_get s6 (by rw [hs1]; decide)
      refine wpOp_act rfl (by rfl) (fun K' hK' => ?_)
      go_simp
      exact hK' _ _ ⟨_, rfl, (fun _ _ => rfl), RB.refl _, hB⟩
    · intro listed a W hf hun haf
      have hs1 : a.tmps.size = 73 := hf.alike.size.trans hsz
      have hB : Below w3.heap.size w3 W := hf.world
      refine wpOp_act rfl (by rfl) (fun K' hK' => ?_)
      go_simp
      exact hK' _ (W.alloc (.cells (verCells (.slice none 0 0) 0 0 0) 38)) ⟨_, rfl, (fun _ _ => ⟨W.heap.size, hB.size, rfl, _, _, _, _, heap_alloc_new _ _⟩), RB.grow (Grow.alloc _ _), hB.trans ((Grow.alloc _ _).mono hB.size)⟩
    · intro listed a W hf hun haf
      have hs1 : a.tmps.size = 73 := hf.alike.size.trans hsz
      have hB : Below w3.heap.size w3 W := hf.world
      obtain ⟨v7, s7, q7⟩ := hf.slot 7 25 rfl (after_listed haf 7 (by kernel_rfl))
      obtain ⟨ya, yn, yc, q7⟩ := q7
      have q7' : v7 = _ := q7
      subst q7'
      have G25 := tmp_get s7 (by rw [hs1]; decide)
      obtain ⟨v9, s9, q9⟩ := hf.slot 9 3 rfl (after_listed haf 9 (by kernel_rfl))
      obtain ⟨b9, l9, q9, x0, x1, x2, x3, c9⟩ := q9
      have q9' : v9 = _ := q9
      subst q9'
      have G3 := tmp_get s9 (by rw [hs1]; decide)
      obtain ⟨z0, z1, z2, z3⟩ := cells4 c9
      have lW := lt_of_getElem? c9
      have fy : ∀ i, W.frozen? ⟨b9, i, none⟩ = false := fun i => by simp [World.frozen?, c9]
      refine wpOp_act rfl (by rfl) (fun K' hK' => ?_)
      go_simp
      exact hK' _ _ ⟨undef, rfl, (fun _ h => by cases h), RB.set4 c9 _ _ _ _, set4_below hB l9 _ _ _ _⟩
    · intro listed a W hf hun haf
      have hs1 : a.tmps.size = 73 := hf.alike.size.trans hsz
      have hB : Below w3.heap.size w3 W := hf.world
      obtain ⟨v8, s8, q8⟩ := hf.slot 8 26 rfl (after_listed haf 8 (by kernel_rfl))
      have q8' : v8 = _ := q8
      subst q8'
      have G26 := tmp_get s8 (by rw [hs1]; decide)
      refine wpOp_act rfl (by rfl) (fun K' hK' => ?_)
      go_simp
      exact hK' _ _ ⟨_, rfl, (fun _ _ => rfl), RB.refl _, hB⟩
  case rest =>
  obtain ⟨rfl, hg3⟩ := hcut
  obtain ⟨w4, hw4⟩ : ∃ x, x = wc := ⟨_, rfl⟩
  subst hw4
  replace Hvb := Lib.hid (hg3.heap Hvb.out)
  replace Hto := Lib.hid (Hto.out.trans hg3)
  replace lv := lt_of_getElem? Hvb.out
  clear hg3
  go_upto_region 3 with fail
  go_cut [6] from 27 to 35 (fun c wx => c = .int .i64 0 ∧ Grow w4 wx)
  case first =>
    rename_i J K hJ hK
    refine wp_frame (fun a0 ha0 => ?_)
    have F1 : a0.tmps[1]? = some (.pointer (some ⟨vb, 0, none⟩)) := by rw [ha0]; rfl
    have hsz : a0.tmps.size = 73 := by rw [ha0]; rfl
    have Hrest : Hid (∀ a1 wx, FrameBut [5, 6, 27, 28, 29, 30, 31, 32, 33, 34, 35] a0 a1 → a1.tmps[6]? = some (.int .i64 0) → Grow w4 wx → K a1 wx) := Lib.hid (fun a1 wx ha h1 h2 => by
      refine hK _ _ (hJ _ _ ?_)
      refine ⟨a1.tmps.getD 5 undef, a1.tmps.getD 6 undef, a1.tmps.getD 27 undef, a1.tmps.getD 28 undef, a1.tmps.getD 29 undef, a1.tmps.getD 30 undef, a1.tmps.getD 31 undef, a1.tmps.getD 32 undef, a1.tmps.getD 33 undef, a1.tmps.getD 34 undef, a1.tmps.getD 35 undef, ⟨by rw [Array.getD_eq_getD_getElem?, h1]; rfl, h2⟩, ha.fill.trans ?_⟩
      subst ha0
      kernel_rfl)
    clear ha0 hK hJ
    refine wp_region_flow (SK w4 (.slice ca kV.tabs.length cc) kV kt3 (0, ⟨[kt3, kt1], 0, 2, 0⟩)) (TK w4) RB [5, 6, 27, 28, 29, 30, 31, 32, 33, 34, 35] (by kernel_rfl) (by kernel_rfl) (by rw [hsz]; rfl) SK.keep (Grow.drew _) ?_ (fun a1 W hf => ?_)
    rotate_left
    · obtain ⟨v, hv, hq⟩ := hf.slot 11 6 (by rfl) (by rfl)
      have hq' : v = _ := hq
      rw [hq'] at hv
      exact Hrest.out a1 W hf.alike hv hf.world
    clear Hrest
    refine ⟨?_, ?_, ?_, ?_, ?_, ?_, ?_, ?_, ?_, ?_, ?_, ?_, True.intro⟩
    · intro listed a W hf hun haf
      have hs1 : a.tmps.size = 73 := hf.alike.size.trans hsz
      have hB : Below w4.heap.size w4 W := hf.world
      have G1 : a.tmps[1]'(by rw [hs1]; decide) = .pointer (some ⟨vb, 0, none⟩) := tmp_get ((hf.alike.same 1 (by decide)).trans F1) _
      have hv := hB.block _ lv
      rw [Hvb.out] at hv
      obtain ⟨x0, x1, x2, x3⟩ := cells4 hv
      have lW := lt_of_getElem? hv
      refine wpOp_act rfl (by rfl) (fun K' hK' => ?_)
      go_simp
      exact hK' _ _ ⟨_, rfl, (fun _ _ => rfl), RB.refl _, hB⟩
    · intro listed a W hf hun haf
      have hs1 : a.tmps.size = 73 := hf.alike.size.trans hsz
      have hB : Below w4.heap.size w4 W := hf.world
      refine wpOp_call rfl (by rfl) (by go_simp) (table_any 2 0 ⟨#[99]⟩ ⟨#[100]⟩ W) ?_
      rintro e w7 ⟨rfl, hg7⟩
      exact ⟨_, rfl, _, rfl, (fun _ _ => rfl), RB.grow hg7, hB.trans (hg7.mono hB.size)⟩
    · intro listed a W hf hun haf
      have hs1 : a.tmps.size = 73 := hf.alike.size.trans hsz
      have hB : Below w4.heap.size w4 W := hf.world
      obtain ⟨v1, s1, q1⟩ := hf.slot 1 29 rfl (after_listed haf 1 (by kernel_rfl))
      have q1' : v1 = _ := q1
      subst q1'
      have G29 := tmp_get s1 (by rw [hs1]; decide)
      refine wpOp_act rfl (by rfl) (fun K' hK' => ?_)
      go_simp
      exact hK' _ (W.alloc (.cells #[.int .i64 kt3.file, .int .i64 kt3.level, .string kt3.first, .string kt3.last, .int .i64 kt3.size] 51)) ⟨_, rfl, (fun _ _ => ⟨W.heap.size, rfl, heap_alloc_new _ _⟩), RB.grow (Grow.alloc _ _), hB.trans ((Grow.alloc _ _).mono hB.size)⟩
    · intro listed a W hf hun haf
      have hs1 : a.tmps.size = 73 := hf.alike.size.trans hsz
      have hB : Below w4.heap.size w4 W := hf.world
      obtain ⟨v2, s2, q2⟩ := hf.slot 2 30 rfl (after_listed haf 2 (by kernel_rfl))
      obtain ⟨b2, q2, c2⟩ := q2
      have q2' : v2 = _ := q2
      subst q2'
      have G30 := tmp_get s2 (by rw [hs1]; decide)
      refine wpOp_act rfl (by rfl) (fun K' hK' => ?_)
      go_simp
      exact hK' _ _ ⟨_, rfl, (fun _ _ => ⟨b2, rfl, c2⟩), RB.refl _, hB⟩
    · intro listed a W hf hun haf
      have hs1 : a.tmps.size = 73 := hf.alike.size.trans hsz
      have hB : Below w4.heap.size w4 W := hf.world
      obtain ⟨v3, s3, q3⟩ := hf.slot 3 31 rfl (after_listed haf 3 (by kernel_rfl))
      obtain ⟨b3, q3, c3⟩ := q3
      have q3' : v3 = _ := q3
      subst q3'
      have G31 := tmp_get s3 (by rw [hs1]; decide)
      refine wpOp_act rfl (by rfl) (fun K' hK' => ?_)
      go_simp
      exact hK' _ (W.alloc (.cells (edCells (.slice (some ⟨b3, 0, none⟩) 1 1) (.slice none 0 0) 0 0 0) 41)) ⟨_, rfl, (fun _ _ => ⟨W.heap.size, b3, rfl, heap_alloc_new _ _, (Grow.alloc _ _).heap c3⟩), RB.grow (Grow.alloc _ _), hB.trans ((Grow.alloc _ _).mono hB.size)⟩
    · intro listed a W hf hun haf
      have hs1 : a.tmps.size = 73 := hf.alike.size.trans hsz
      have hB : Below w4.heap.size w4 W := hf.world
      obtain ⟨v0, s0, q0⟩ := hf.slot 0 28 rfl (after_listed haf 0 (by kernel_rfl))
      have q0' : v0 = _ := q0
      subst q0'
      have G28 := tmp_get s0 (by rw [hs1]; decide)
      obtain ⟨v4, s4, q4⟩ := hf.slot 4 32 rfl (after_listed haf 4 (by kernel_rfl))
      obtain ⟨b4, t4, q4, c4, d4⟩ := q4
      have q4' : v4 = _ := q4
      subst q4'
      have G32 := tmp_get s4 (by rw [hs1]; decide)
      have hcall := Apply_any HA.out (B := 0) (V := kV) (owns_grow Hown2.out (Hto.out.trans hB)) (by decide) (edits_one (e := kE3) c4 (tabs_one (t := kt3) d4) (ints_nil _)) (by decide) (by decide)
      rw [k3] at hcall
      refine wpOp_call rfl (by rfl) (by go_simp) hcall ?_
      rintro e w7 ⟨v7, rfl, hown7, hg7⟩
      obtain ⟨ya, yc, rfl⟩ := own_slice hown7
      exact ⟨_, rfl, _, rfl, (fun _ _ => ⟨_, _, _, rfl⟩), RB.grow hg7, hB.trans (hg7.mono hB.size)⟩
    · intro listed a W hf hun haf
      have hs1 : a.tmps.size = 73 := hf.alike.size.trans hsz
      have hB : Below w4.heap.size w4 W := hf.world
      obtain ⟨v5, s5, q5⟩ := hf.slot 5 33 rfl (after_listed haf 5 (by kernel_rfl))
      obtain ⟨ya, yn, yc, q5⟩ := q5
      have q5' : v5 = _ := q5
      subst q5'
      have G33 := tmp_get s5 (by rw [hs1]; decide)
      refine wpOp_act rfl (by rfl) (fun K' hK' => ?_)
      go_simp
      exact hK' _ _ ⟨_, rfl, (fun _ _ => ⟨_, _, _, rfl⟩), RB.refl _, hB⟩
    · intro listed a W hf hun haf
      have hs1 : a.tmps.size = 73 := hf.alike.size.trans hsz
      have hB : Below w4.heap.size w4 W := hf.world
      obtain ⟨v6, s6, q6⟩ := hf.slot 6 27 rfl (after_listed haf 6 (by kernel_rfl))
      obtain ⟨ya, yn, yc, q6⟩ := q6
      have q6' : v6 = _ := q6
      subst q6'
      have G27 := tmp_get s6 (by rw [hs1]; decide)
      refine wpOp_act rfl (by rfl) (fun K' hK' => ?_)
      go_simp
      exact hK' _ _ ⟨_, rfl, (fun _ _ => ⟨_, _, _, rfl⟩), RB.refl _, hB⟩
    · intro listed a W hf hun haf
      have hs1 : a.tmps.size = 73 := hf.alike.size.trans hsz
      have hB : Below w4.heap.size w4 W := hf.world
      obtain ⟨v6, s6, q6⟩ := hf.slot 6 27 rfl (after_listed haf 6 (by kernel_rfl))
      obtain ⟨ya, yn, yc, q6⟩ := q6
      have q6' : v6 = _ := q6
      subst q6'
      have G27 := tmp_get s6 (by rw [hs1]; decide)
      refine wpOp_act rfl (by rfl) (fun K' hK' => ?_)
      go_simp
      exact hK' _ _ ⟨_, rfl, (fun _ _ => rfl), RB.refl _, hB⟩
    · intro listed a W hf hun haf
      have hs1 : a.tmps.size = 73 := hf.alike.size.trans hsz
      have hB : Below w4.heap.size w4 W := hf.world
      refine wpOp_act rfl (by rfl) (fun K' hK' => ?_)
      go_simp
      exact hK' _ (W.alloc (.cells (verCells (.slice none 0 0) 0 0 0) 38)) ⟨_, rfl, (fun _ _ => ⟨W.heap.size, hB.size, rfl, _, _, _, _, heap_alloc_new _ _⟩), RB.grow (Grow.alloc _ _), hB.trans ((Grow.alloc _ _).mono hB.size)⟩
    · intro listed a W hf hun haf
      have hs1 : a.tmps.size = 73 := hf.alike.size.trans hsz
      have hB : Below w4.heap.size w4 W := hf.world
      obtain ⟨v7, s7, q7⟩ := hf.slot 7 34 rfl (after_listed haf 7 (by kernel_rfl))
      obtain ⟨ya, yn, yc, q7⟩ := q7
      have q7' : v7 = _ := q7
      subst q7'
      have G34 := tmp_get s7 (by rw [hs1]; decide)
      obtain ⟨v9, s9, q9⟩ := hf.slot 9 5 rfl (after_listed haf 9 (by kernel_rfl))
      obtain ⟨b9, l9, q9, x0, x1, x2, x3, c9⟩ := q9
      have q9' : v9 = _ := q9
      subst q9'
      have G5 := tmp_get s9 (by rw [hs1]; decide)
      obtain ⟨z0, z1, z2, z3⟩ := cells4 c9
      have lW := lt_of_getElem? c9
      have fy : ∀ i, W.frozen? ⟨b9, i, none⟩ = false := fun i => by simp [World.frozen?, c9]
      refine wpOp_act rfl (by rfl) (fun K' hK' => ?_)
      go_simp
      exact hK' _ _ ⟨undef, rfl, (fun _ h => by cases h), RB.set4 c9 _ _ _ _, set4_below hB l9 _ _ _ _⟩
    · intro listed a W hf hun haf
      have hs1 : a.tmps.size = 73 := hf.alike.size.trans hsz
      have hB : Below w4.heap.size w4 W := hf.world
      obtain ⟨v8, s8, q8⟩ := hf.slot 8 35 rfl (after_listed haf 8 (by kernel_rfl))
      have q8' : v8 = _ := q8
      subst q8'
      have G35 := tmp_get s8 (by rw [hs1]; decide)
      refine wpOp_act rfl (by rfl) (fun K' hK' => ?_)
      go_simp
      exact hK' _ _ ⟨_, rfl, (fun _ _ => rfl), RB.refl _, hB⟩
  case rest =>
  obtain ⟨rfl, hg3⟩ := hcut
  obtain ⟨w5, hw4⟩ : ∃ x, x = wc := ⟨_, rfl⟩
  subst hw4
  replace Hvb := Lib.hid (hg3.heap Hvb.out)
  replace Hto := Lib.hid (Hto.out.trans hg3)
  replace lv := lt_of_getElem? Hvb.out
  clear hg3
  obtain ⟨x0, x1, x2, x3⟩ := cells4 Hvb.out
  go_wp2_with fail
  have hga : Grow w5 (w5.alloc (.cells #[.int .i64 7] 3)) := Grow.alloc _ _
  have hgb : Grow (w5.alloc (.cells #[.int .i64 7] 3)) ((w5.alloc (.cells #[.int .i64 7] 3)).alloc (.cells (edCells (.slice none 0 0) (.slice (some ⟨w5.heap.size, 0, none⟩) 1 1) 0 0 0) 41)) := Grow.alloc _ _
  have hta := heap_alloc_new w5 (.cells #[.int .i64 7] 3)
  have heb := heap_alloc_new (w5.alloc (.cells #[.int .i64 7] 3)) (.cells (edCells (.slice none 0 0) (.slice (some ⟨w5.heap.size, 0, none⟩) 1 1) 0 0 0) 41)
  have hsz : (w5.alloc (.cells #[.int .i64 7] 3)).heap.size = w5.heap.size + 1 := by simp
  rw [hsz] at heb
  have hcall := Apply_any HA.out (B := 0) (V := kV) (owns_grow Hown2.out ((Hto.out.trans hga).trans hgb)) (by decide) (edits_one (e := kE4) heb (tabs_nil _) (ints_one (hgb.heap hta))) (by decide) (by decide)
  rw [k4] at hcall
  (with_reducible refine hcall.mono ?_)
  rintro e w6 ⟨v6, rfl, hown6, hg6⟩
  have hg5 : Grow w5 w6 := (hga.trans hgb).trans hg6
  obtain ⟨ya, yc, rfl⟩ := own_slice hown6
  clear hcall hga hgb hta heb hsz hg6 hown6 x0 x1 x2 x3
  obtain ⟨x0, x1, x2, x3⟩ := cells4 (hg5.heap Hvb.out)
  have l6 := lt_of_getElem? (hg5.heap Hvb.out)
  have Hall := Lib.hid ((Hg02.out.trans Hto.out).trans hg5)
  have e1 : ((kV.tabs.length : Int) == 1) = true := rfl
  have e2 : (kV.next == 2) = true := rfl
  have e3 : ((15 : Int) == 15) = true := rfl
  have e4 : ((4 : Int) == 4) = true := rfl
  clear hg5
  go_wp2_with ((with_reducible refine (file3 _).mono ?_); rintro e w7 ⟨rfl, rfl⟩)
  go_ret
  exact ⟨rfl, Hall.out.trans (Grow.alloc _ _)⟩
end Go.Proofs.YtejpcoghkgjanaaGreatDoor.Mn

/- A slice of edits that came in, opened: each edit's tables and files; no condition. -/
namespace Go.Proofs.YtejpcoghkgjanaaGreatDoor.Mn
open Go.ChangeShapes Go.WideShapes Go.ChangeAt Go.RowKit Go.Gl

section
variable {H : Type} {enc : TypeId × Value → H} {w : World} {base : Nat} {spare : Nat → Bool} {held : Bool}

theorem spot_of_cell {w : World} {a : Addr} {v : Value} (h : w.cell? a = some v) : a.spot = none := by
  unfold World.cell? at h
  split at h
  · cases hs : a.spot with
    | none => rfl
    | some s => simp [hs] at h
  · cases h

theorem opened5 {a : Addr} {cs : List Value} (h : w.cells? base a 5 = some cs) : ∃ v0 v1 v2 v3 v4, cs = [v0, v1, v2, v3, v4] ∧ w.cell? a = some v0 ∧ w.cell? (a.add 1) = some v1 ∧ w.cell? (a.add 2) = some v2 ∧ w.cell? (a.add 3) = some v3 ∧ w.cell? (a.add 4) = some v4 := by
  unfold World.cells? at h
  split at h
  · have e : List.range 5 = [0, 1, 2, 3, 4] := rfl
    rw [e] at h
    simp only [List.mapM_cons, List.mapM_nil, Option.bind_eq_bind, Option.bind_eq_some_iff, Option.pure_def, Option.some.injEq] at h
    obtain ⟨v0, h0, _, ⟨v1, h1, _, ⟨v2, h2, _, ⟨v3, h3, _, ⟨v4, h4, _, rfl, rfl⟩, rfl⟩, rfl⟩, rfl⟩, rfl⟩ := h
    exact ⟨v0, v1, v2, v3, v4, rfl, by simpa [Addr.add] using h0, h1, h2, h3, h4⟩
  · cases h

theorem open_drop {v : Value} {fuel : Nat} {x : DataW H × List MemPlace} (h : DataW.trod enc Tryz.prog w base spare held fuel 24 [v] = some x) : ∃ ks, Ints w v ks ∧ ks.length ≤ maxLen := by
  rcases open_ints Tryz.underlying24 Tryz.underlying3 (by kernel_rfl) h with ⟨hcs, _⟩ | ⟨a, l, c, zs, hcs, _, hl, hm, hz, _, hcell, hwz⟩
  · simp only [List.cons.injEq, and_true] at hcs
    exact ⟨[], ⟨none, 0, by rw [hcs]; rfl, by simp, .inl rfl⟩, by simp⟩
  · simp only [List.cons.injEq, and_true] at hcs
    subst hcs
    have hzl : l ≤ zs.length := by rw [hz]; split <;> omega
    by_cases hl0 : l = 0
    · subst hl0
      exact ⟨[], ⟨some a, c, rfl, by simp, .inl rfl⟩, by simp⟩
    · have h0 := hcell 0 (by omega)
      have hsp := spot_of_cell h0
      obtain ⟨b, o, sp⟩ := a
      simp only [Addr.add, if_true] at hsp
      subst hsp
      have hlt := World.block_lt_of_cell? w _ h0
      rw [Addr.add_lit] at hlt
      have e : (zs.take l).length = l := by simp; omega
      refine ⟨zs.take l, ⟨some ⟨b, o, none⟩, c, by rw [e], by rw [e]; exact hl, .inr ⟨b, o, rfl, hlt, fun j k hk => ?_⟩⟩, by rw [e]; omega⟩
      rw [List.getElem?_take] at hk
      split at hk
      · have h1 := hcell j (by omega)
        rw [Addr.add_lit] at h1
        rw [h1]
        simp [List.getD, hk]
      · cases hk

theorem open_tab {b o : Nat} {cs : List Value} {n : Nat} {x : DataW H × List MemPlace} (hc : w.cells? base ⟨b, o, none⟩ 5 = some cs) (h : DataW.trod enc Tryz.prog w base spare held n 51 cs = some x) : ∃ t : Tb, ∀ (c : Nat) (u : Value), (encTb t)[c]? = some u → w.cell? ⟨b, o + c, none⟩ = some u := by
  obtain ⟨xs, m, _, _, hl, hlen, hf⟩ := DataW.trod_struct Tryz.underlying51 h
  obtain ⟨v0, v1, v2, v3, v4, rfl, c0, c1, c2, c3, c4⟩ := opened5 hc
  rw [Addr.add_lit] at c1 c2 c3 c4
  have k3 : Tryz.prog.cellsOf 3 = 1 := by kernel_rfl
  have k9 : Tryz.prog.cellsOf 9 = 1 := by kernel_rfl
  match xs, hlen with
  | [y0, y1, y2, y3, y4], _ =>
    have f0 : DataW.trod enc Tryz.prog w base spare held m 3 [v0] = some y0 := by have h7 := hf 0 _ rfl; simpa [k3] using h7
    have f1 : DataW.trod enc Tryz.prog w base spare held m 3 [v1] = some y1 := by have h7 := hf 1 _ rfl; simpa [k3] using h7
    have f2 : DataW.trod enc Tryz.prog w base spare held m 9 [v2] = some y2 := by have h7 := hf 2 _ rfl; simpa [k3, k9] using h7
    have f3 : DataW.trod enc Tryz.prog w base spare held m 9 [v3] = some y3 := by have h7 := hf 3 _ rfl; simpa [k3, k9] using h7
    have f4 : DataW.trod enc Tryz.prog w base spare held m 3 [v4] = some y4 := by have h7 := hf 4 _ rfl; simpa [k3, k9] using h7
    obtain ⟨n0, e0, _⟩ := DataW.trod_int Tryz.underlying3 f0
    obtain ⟨n1, e1, _⟩ := DataW.trod_int Tryz.underlying3 f1
    obtain ⟨s2, e2, _⟩ := DataW.trod_string Tryz.underlying9 f2
    obtain ⟨s3, e3, _⟩ := DataW.trod_string Tryz.underlying9 f3
    obtain ⟨n4, e4, _⟩ := DataW.trod_int Tryz.underlying3 f4
    simp only [List.cons.injEq, and_true] at e0 e1 e2 e3 e4
    subst e0 e1 e2 e3 e4
    refine ⟨⟨n0, n1, s2, s3, n4⟩, fun c u hu => ?_⟩
    match c, hu with
    | 0, hu => cases hu; exact c0
    | 1, hu => cases hu; exact c1
    | 2, hu => cases hu; exact c2
    | 3, hu => cases hu; exact c3
    | 4, hu => cases hu; exact c4
    | c + 5, hu => simp [encTb] at hu

theorem open_tabs {v : Value} {fuel : Nat} {x : DataW H × List MemPlace} (h : DataW.trod enc Tryz.prog w base spare held fuel 35 [v] = some x) : ∃ l, Tabs w v l ∧ l.length ≤ maxLen := by
  have k38 : Tryz.prog.cellsOf 51 = 5 := by kernel_rfl
  rcases Go.Deep.open_slice Tryz.underlying35 h with ⟨hcs, _⟩ | ⟨a, len, cap, m, n, D, Pl, hcs, _, hl, hm, hmm, _, hel⟩
  · simp only [List.cons.injEq, and_true] at hcs
    exact ⟨[], ⟨none, 0, by rw [hcs]; rfl, .inl rfl⟩, by simp⟩
  · simp only [List.cons.injEq, and_true] at hcs
    subst hcs
    rw [k38] at hel
    have hlm : len ≤ m := by rw [hmm]; split <;> omega
    by_cases hl0 : len = 0
    · subst hl0
      exact ⟨[], ⟨some a, cap, rfl, .inl rfl⟩, by simp⟩
    · obtain ⟨cs0, hc0, _⟩ := hel 0 (by omega)
      obtain ⟨b, o, sp⟩ := a
      obtain ⟨v0, _, _, _, _, _, hz0, _⟩ := opened5 hc0
      have hz : w.cell? ⟨b, o, sp⟩ = some v0 := by simpa [Addr.add] using hz0
      have hsp := spot_of_cell hz
      simp only at hsp
      subst hsp
      have hlt := World.block_lt_of_cell? w _ hz
      have hall : ∀ i, i < len → ∃ t : Tb, ∀ (c : Nat) (u : Value), (encTb t)[c]? = some u → w.cell? ⟨b, o + i * 5 + c, none⟩ = some u := fun i hi => by
        obtain ⟨cs', h1, h2⟩ := hel i (by omega)
        rw [Addr.add_lit] at h1
        exact open_tab h1 h2
      obtain ⟨f, hf⟩ := Go.Deep.choose_lt hall
      refine ⟨(List.range len).map f, ⟨some ⟨b, o, none⟩, cap, by simp, .inr ⟨b, o, rfl, hlt, fun i y hy => ?_⟩⟩, by simp; omega⟩
      simp only [List.getElem?_map, Option.map_eq_some_iff] at hy
      obtain ⟨j, hj, rfl⟩ := hy
      have hil : i < len := by have := (List.getElem?_eq_some_iff.1 hj).1; simpa using this
      rw [List.getElem?_range hil] at hj
      cases hj
      exact hf i hil

/-- An edit in memory, with the bounds that a machine sets. -/
def EdOk (w : World) (b o : Nat) (e : EdD) : Prop := ∃ av dv, EdAt w b o av dv e ∧ e.add.length ≤ maxLen

theorem open_edit {b o : Nat} {cs : List Value} {n : Nat} {x : DataW H × List MemPlace} (hc : w.cells? base ⟨b, o, none⟩ 5 = some cs) (h : DataW.trod enc Tryz.prog w base spare held n 41 cs = some x) : ∃ e : EdD, EdOk w b o e := by
  obtain ⟨xs, m, _, _, hl, hlen, hf⟩ := DataW.trod_struct Tryz.underlying41 h
  obtain ⟨v0, v1, v2, v3, v4, rfl, c0, c1, c2, c3, c4⟩ := opened5 hc
  rw [Addr.add_lit] at c1 c2 c3 c4
  have k3 : Tryz.prog.cellsOf 3 = 1 := by kernel_rfl
  have kT : Tryz.prog.cellsOf 35 = 1 := by kernel_rfl
  have kI : Tryz.prog.cellsOf 24 = 1 := by kernel_rfl
  have kU : Tryz.prog.cellsOf 36 = 1 := by kernel_rfl
  match xs, hlen with
  | [y0, y1, y2, y3, y4], _ =>
    have f0 : DataW.trod enc Tryz.prog w base spare held m 35 [v0] = some y0 := by have h7 := hf 0 _ rfl; simpa [kT] using h7
    have f1 : DataW.trod enc Tryz.prog w base spare held m 24 [v1] = some y1 := by have h7 := hf 1 _ rfl; simpa [kT, kI] using h7
    have f2 : DataW.trod enc Tryz.prog w base spare held m 36 [v2] = some y2 := by have h7 := hf 2 _ rfl; simpa [kT, kI, kU] using h7
    have f3 : DataW.trod enc Tryz.prog w base spare held m 3 [v3] = some y3 := by have h7 := hf 3 _ rfl; simpa [kT, kI, kU, k3] using h7
    have f4 : DataW.trod enc Tryz.prog w base spare held m 3 [v4] = some y4 := by have h7 := hf 4 _ rfl; simpa [kT, kI, kU, k3] using h7
    obtain ⟨n2, e2, _⟩ := DataW.trod_int Tryz.underlying36 f2
    obtain ⟨n3, e3, _⟩ := DataW.trod_int Tryz.underlying3 f3
    obtain ⟨n4, e4, _⟩ := DataW.trod_int Tryz.underlying3 f4
    simp only [List.cons.injEq, and_true] at e2 e3 e4
    subst e2 e3 e4
    obtain ⟨ts, hts, htl⟩ := open_tabs f0
    obtain ⟨ks, hks, hkl⟩ := open_drop f1
    exact ⟨⟨ts, ks, n2, n3, n4⟩, v0, v1, ⟨c0, c1, c2, c3, c4, hts, hks⟩, htl⟩

theorem open_edits {v : Value} {fuel : Nat} {x : DataW H × List MemPlace} (h : DataW.trod enc Tryz.prog w base spare held fuel 22 [v] = some x) : ∃ es, Edits w v es ∧ es.length ≤ maxLen ∧ ∀ e ∈ es, e.add.length ≤ maxLen := by
  have k31 : Tryz.prog.cellsOf 41 = 5 := by kernel_rfl
  rcases Go.Deep.open_slice Tryz.underlying22 h with ⟨hcs, _⟩ | ⟨a, len, cap, m, n, D, Pl, hcs, _, hl, hm, hmm, _, hel⟩
  · simp only [List.cons.injEq, and_true] at hcs
    exact ⟨[], ⟨none, 0, by rw [hcs]; rfl, .inl rfl⟩, by simp, by simp⟩
  · simp only [List.cons.injEq, and_true] at hcs
    subst hcs
    rw [k31] at hel
    have hlm : len ≤ m := by rw [hmm]; split <;> omega
    by_cases hl0 : len = 0
    · subst hl0
      exact ⟨[], ⟨some a, cap, rfl, .inl rfl⟩, by simp, by simp⟩
    · obtain ⟨cs0, hc0, _⟩ := hel 0 (by omega)
      obtain ⟨b, o, sp⟩ := a
      obtain ⟨v0, _, _, _, _, _, hz0, _⟩ := opened5 hc0
      have hz : w.cell? ⟨b, o, sp⟩ = some v0 := by simpa [Addr.add] using hz0
      have hsp := spot_of_cell hz
      simp only at hsp
      subst hsp
      have hlt := World.block_lt_of_cell? w _ hz
      have hall : ∀ i, i < len → ∃ e : EdD, EdOk w b (o + i * 5) e := fun i hi => by
        obtain ⟨cs', h1, h2⟩ := hel i (by omega)
        rw [Addr.add_lit] at h1
        exact open_edit h1 h2
      have : Inhabited EdD := ⟨⟨[], [], 0, 0, 0⟩⟩
      obtain ⟨f, hf⟩ := Go.Deep.choose_lt hall
      refine ⟨(List.range len).map f, ⟨some ⟨b, o, none⟩, cap, by simp, .inr ⟨b, o, rfl, hlt, fun i y hy => ?_⟩⟩, by simp; omega, fun e he => ?_⟩
      · simp only [List.getElem?_map, Option.map_eq_some_iff] at hy
        obtain ⟨j, hj, rfl⟩ := hy
        have hil : i < len := by have := (List.getElem?_eq_some_iff.1 hj).1; simpa using this
        rw [List.getElem?_range hil] at hj
        cases hj
        obtain ⟨av, dv, h1, _⟩ := hf i hil
        exact ⟨av, dv, h1⟩
      · simp only [List.mem_map, List.mem_range] at he
        obtain ⟨i, hi, rfl⟩ := he
        obtain ⟨_, _, _, h1⟩ := hf i hi
        exact h1
end
end Go.Proofs.YtejpcoghkgjanaaGreatDoor.Mn
