/- known: its walk. -/
import Derived.Test.YtpdbjmodgiokmaaDoorMK
namespace Go.Proofs.YtpdbjmodgiokmaaDoor
open Go.RowKit Go.Gl

set_option maxRecDepth 100000 in
set_option maxHeartbeats 4000000 in
theorem known_any (hA : ApplyOk) (w : World) : Calls Tryd.prog 4 #[] w fun e w' => e = .returned (.bool true) ∧ Grow w w' := by
  have HA := Lib.hid hA
  clear hA
  go_enter Tryd.func4, Tryd.ntmps4
  go_wp2_with fail
  (with_reducible refine (table_any 1 1 ⟨#[97]⟩ ⟨#[99]⟩ _).mono ?_)
  rintro e w1 ⟨rfl, hg1⟩
  go_wp2_with fail
  have hga : Grow w1 (w1.alloc (.cells #[.int .i64 1, .int .i64 1, .string ⟨#[97]⟩, .string ⟨#[99]⟩, .int .i64 0] 38)) := Grow.alloc _ _
  have hgb : Grow (w1.alloc (.cells #[.int .i64 1, .int .i64 1, .string ⟨#[97]⟩, .string ⟨#[99]⟩, .int .i64 0] 38)) ((w1.alloc (.cells #[.int .i64 1, .int .i64 1, .string ⟨#[97]⟩, .string ⟨#[99]⟩, .int .i64 0] 38)).alloc (.cells (edCells (.slice (some ⟨w1.heap.size, 0, none⟩) 1 1) (.slice none 0 0) 0 2 0) 31)) := Grow.alloc _ _
  have hta := heap_alloc_new w1 (.cells #[.int .i64 1, .int .i64 1, .string ⟨#[97]⟩, .string ⟨#[99]⟩, .int .i64 0] 38)
  have heb := heap_alloc_new (w1.alloc (.cells #[.int .i64 1, .int .i64 1, .string ⟨#[97]⟩, .string ⟨#[99]⟩, .int .i64 0] 38)) (.cells (edCells (.slice (some ⟨w1.heap.size, 0, none⟩) 1 1) (.slice none 0 0) 0 2 0) 31)
  have hsz : (w1.alloc (.cells #[.int .i64 1, .int .i64 1, .string ⟨#[97]⟩, .string ⟨#[99]⟩, .int .i64 0] 38)).heap.size = w1.heap.size + 1 := by simp
  rw [hsz] at heb
  have hcall := Apply_any HA.out (B := 0) (V := verZero) (World.ownsRow_nil _ _ _ _) (by decide) (edits_one (e := kE1) heb (tabs_one (t := kt1) (hgb.heap hta)) (ints_nil _)) (by decide) (by decide)
  rw [k1] at hcall
  dsimp only [verZero] at hcall
  (with_reducible refine hcall.mono ?_)
  rintro e w2 ⟨cv, rfl, hown2, hg2⟩
  have hg02 : Grow w w2 := (hg1.trans (hga.trans hgb)).trans hg2
  obtain ⟨ca, cc, rfl⟩ := own_slice hown2
  have Hown2 := Lib.hid (owns_mono hown2 (Nat.zero_le _))
  have Hg02 := Lib.hid hg02
  clear hcall hga hgb hta heb hsz hg1 hg2 hg02 hown2
  go_upto_region 2 with fail

  have hvb : (w2.alloc (.cells (verCells (.slice ca kV.tabs.length cc) kV.seq kV.next kV.wal) 27)).heap[w2.heap.size]? = some (.cells (verCells (.slice ca kV.tabs.length cc) kV.seq kV.next kV.wal) 27 (0, 0)) := heap_alloc_new _ _
  have hto : Grow w2 (w2.alloc (.cells (verCells (.slice ca kV.tabs.length cc) kV.seq kV.next kV.wal) 27)) := Grow.alloc _ _
  generalize w2.heap.size = vb at *
  have Hvb := Lib.hid hvb
  have Hto := Lib.hid hto
  have lv := lt_of_getElem? hvb
  clear hvb hto
  generalize w2.alloc (.cells (verCells (.slice ca kV.tabs.length cc) kV.seq kV.next kV.wal) 27) = w3 at *
  go_cut [4] from 18 to 26 (fun c wx => c = .int .i64 15 ∧ Grow w3 wx)
  case first =>
    rename_i J K hJ hK
    refine wp_frame (fun a0 ha0 => ?_)
    have F1 : a0.tmps[1]? = some (.pointer (some ⟨vb, 0, none⟩)) := by rw [ha0]; rfl
    have hsz : a0.tmps.size = 73 := by rw [ha0]; rfl
    have Hrest : Hid (∀ a1 wx, FrameBut [3, 4, 18, 19, 20, 21, 22, 23, 24, 25, 26] a0 a1 → a1.tmps[4]? = some (.int .i64 15) → Grow w3 wx → K a1 wx) := Lib.hid (fun a1 wx ha h1 h2 => by
      refine hK _ _ (hJ _ _ ?_)
      refine ⟨a1.tmps.getD 3 undef, a1.tmps.getD 4 undef, a1.tmps.getD 18 undef, a1.tmps.getD 19 undef, a1.tmps.getD 20 undef, a1.tmps.getD 21 undef, a1.tmps.getD 22 undef, a1.tmps.getD 23 undef, a1.tmps.getD 24 undef, a1.tmps.getD 25 undef, a1.tmps.getD 26 undef, ⟨by rw [Array.getD_eq_getD_getElem?, h1]; rfl, h2⟩, ha.fill.trans ?_⟩
      subst ha0
      kernel_rfl)
    clear ha0 hK hJ
    refine wp_region_flow (SK w3 (.slice ca kV.tabs.length cc) kV kt2 (15, verZero)) (TK w3) RB [3, 4, 18, 19, 20, 21, 22, 23, 24, 25, 26] (by kernel_rfl) (by kernel_rfl) (by rw [hsz]; rfl) SK.keep (Grow.drew _) ?_ (fun a1 W hf => ?_)
    rotate_left
    · obtain ⟨v, hv, hq⟩ := hf.slot 11 4 (by rfl) (by rfl)
      have hq' : v = _ := hq
      rw [hq'] at hv
      exact Hrest.out a1 W hf.alike hv hf.world
    clear Hrest
    refine ⟨?_, ?_, ?_, ?_, ?_, ?_, ?_, ?_, ?_, ?_, ?_, ?_, True.intro⟩
    · intro listed a W hf hun haf
      have hs1 : a.tmps.size = 73 := hf.alike.size.trans hsz
      have hB : Below w3.heap.size w3 W := hf.world
      have G1 : a.tmps[1]'(by rw [hs1]; decide) = .pointer (some ⟨vb, 0, none⟩) := tmp_get ((hf.alike.same 1 (by decide)).trans F1) _
      have hv := hB.block _ lv
      rw [Hvb.out] at hv
      obtain ⟨x0, x1, x2, x3⟩ := cells4 hv
      have lW := lt_of_getElem? hv
      refine wpOp_act rfl (by rfl) (fun K' hK' => ?_)
      go_simp
      exact hK' _ _ ⟨_, rfl, (fun _ _ => rfl), RB.refl _, hB⟩
    · intro listed a W hf hun haf
      have hs1 : a.tmps.size = 73 := hf.alike.size.trans hsz
      have hB : Below w3.heap.size w3 W := hf.world
      refine wpOp_call rfl (by rfl) (by go_simp) (table_any 2 1 ⟨#[99]⟩ ⟨#[100]⟩ W) ?_
      rintro e w7 ⟨rfl, hg7⟩
      exact ⟨_, rfl, _, rfl, (fun _ _ => rfl), RB.grow hg7, hB.trans (hg7.mono hB.size)⟩
    · intro listed a W hf hun haf
      have hs1 : a.tmps.size = 73 := hf.alike.size.trans hsz
      have hB : Below w3.heap.size w3 W := hf.world
      obtain ⟨v1, s1, q1⟩ := hf.slot 1 20 rfl (after_listed haf 1 (by kernel_rfl))
      have q1' : v1 = _ := q1
      subst q1'
      have G20 := tmp_get s1 (by rw [hs1]; decide)
      refine wpOp_act rfl (by rfl) (fun K' hK' => ?_)
      go_simp
      exact hK' _ (W.alloc (.cells #[.int .i64 kt2.file, .int .i64 kt2.level, .string kt2.first, .string kt2.last, .int .i64 kt2.size] 38)) ⟨_, rfl, (fun _ _ => ⟨W.heap.size, rfl, heap_alloc_new _ _⟩), RB.grow (Grow.alloc _ _), hB.trans ((Grow.alloc _ _).mono hB.size)⟩
    · intro listed a W hf hun haf
      have hs1 : a.tmps.size = 73 := hf.alike.size.trans hsz
      have hB : Below w3.heap.size w3 W := hf.world
      obtain ⟨v2, s2, q2⟩ := hf.slot 2 21 rfl (after_listed haf 2 (by kernel_rfl))
      obtain ⟨b2, q2, c2⟩ := q2
      have q2' : v2 = _ := q2
      subst q2'
      have G21 := tmp_get s2 (by rw [hs1]; decide)
      refine wpOp_act rfl (by rfl) (fun K' hK' => ?_)
      go_simp
      exact hK' _ _ ⟨_, rfl, (fun _ _ => ⟨b2, rfl, c2⟩), RB.refl _, hB⟩
    · intro listed a W hf hun haf
      have hs1 : a.tmps.size = 73 := hf.alike.size.trans hsz
      have hB : Below w3.heap.size w3 W := hf.world
      obtain ⟨v3, s3, q3⟩ := hf.slot 3 22 rfl (after_listed haf 3 (by kernel_rfl))
      obtain ⟨b3, q3, c3⟩ := q3
      have q3' : v3 = _ := q3
      subst q3'
      have G22 := tmp_get s3 (by rw [hs1]; decide)
      refine wpOp_act rfl (by rfl) (fun K' hK' => ?_)
      go_simp
      exact hK' _ (W.alloc (.cells (edCells (.slice (some ⟨b3, 0, none⟩) 1 1) (.slice none 0 0) 0 0 0) 31)) ⟨_, rfl, (fun _ _ => ⟨W.heap.size, b3, rfl, heap_alloc_new _ _, (Grow.alloc _ _).heap c3⟩), RB.grow (Grow.alloc _ _), hB.trans ((Grow.alloc _ _).mono hB.size)⟩
    · intro listed a W hf hun haf
      have hs1 : a.tmps.size = 73 := hf.alike.size.trans hsz
      have hB : Below w3.heap.size w3 W := hf.world
      obtain ⟨v0, s0, q0⟩ := hf.slot 0 19 rfl (after_listed haf 0 (by kernel_rfl))
      have q0' : v0 = _ := q0
      subst q0'
      have G19 := tmp_get s0 (by rw [hs1]; decide)
      obtain ⟨v4, s4, q4⟩ := hf.slot 4 23 rfl (after_listed haf 4 (by kernel_rfl))
      obtain ⟨b4, t4, q4, c4, d4⟩ := q4
      have q4' : v4 = _ := q4
      subst q4'
      have G23 := tmp_get s4 (by rw [hs1]; decide)
      have hcall := Apply_any HA.out (B := 0) (V := kV) (owns_grow Hown2.out (Hto.out.trans hB)) (by decide) (edits_one (e := kE2) c4 (tabs_one (t := kt2) d4) (ints_nil _)) (by decide) (by decide)
      rw [k2] at hcall
      refine wpOp_call rfl (by rfl) (by go_simp) hcall ?_
      rintro e w7 ⟨v7, rfl, hown7, hg7⟩
      obtain ⟨ya, yc, rfl⟩ := own_slice hown7
      exact ⟨_, rfl, _, rfl, (fun _ _ => ⟨_, _, _, rfl⟩), RB.grow hg7, hB.trans (hg7.mono hB.size)⟩
    · intro listed a W hf hun haf
      have hs1 : a.tmps.size = 73 := hf.alike.size.trans hsz
      have hB : Below w3.heap.size w3 W := hf.world
      obtain ⟨v5, s5, q5⟩ := hf.slot 5 24 rfl (after_listed haf 5 (by kernel_rfl))
      obtain ⟨ya, yn, yc, q5⟩ := q5
      have q5' : v5 = _ := q5
      subst q5'
      have G24 := tmp_get s5 (by rw [hs1]; decide)
      refine wpOp_act rfl (by rfl) (fun K' hK' => ?_)
      go_simp
      exact hK' _ _ ⟨_, rfl, (fun _ _ => ⟨_, _, _, rfl⟩), RB.refl _, hB⟩
    · intro listed a W hf hun haf
      have hs1 : a.tmps.size = 73 := hf.alike.size.trans hsz
      have hB : Below w3.heap.size w3 W := hf.world
      obtain ⟨v6, s6, q6⟩ := hf.slot 6 18 rfl (after_listed haf 6 (by kernel_rfl))
      obtain ⟨ya, yn, yc, q6⟩ := q6
      have q6' : v6 = _ := q6
      subst q6'
      have G18 := tmp_get s6 (by rw [hs1]; decide)
      refine wpOp_act rfl (by rfl) (fun K' hK' => ?_)
      go_simp
      exact hK' _ _ ⟨_, rfl, (fun _ _ => ⟨_, _, _, rfl⟩), RB.refl _, hB⟩
    · intro listed a W hf hun haf
      have hs1 : a.tmps.size = 73 := hf.alike.size.trans hsz
      have hB : Below w3.heap.size w3 W := hf.world
      obtain ⟨v6, s6, q6⟩ := hf.slot 6 18 rfl (after_listed haf 6 (by kernel_rfl))
      obtain ⟨ya, yn, yc, q6⟩ := q6
      have q6' : v6 = _ := q6
      subst q6'
      have G18 := tmp_get s6 (by rw [hs1]; decide)
      refine wpOp_act rfl (by rfl) (fun K' hK' => ?_)
      go_simp
      exact hK' _ _ ⟨_, rfl, (fun _ _ => rfl), RB.refl _, hB⟩
    · intro listed a W hf hun haf
      have hs1 : a.tmps.size = 73 := hf.alike.size.trans hsz
      have hB : Below w3.heap.size w3 W := hf.world
      refine wpOp_act rfl (by rfl) (fun K' hK' => ?_)
      go_simp
      exact hK' _ (W.alloc (.cells (verCells (.slice none 0 0) 0 0 0) 27)) ⟨_, rfl, (fun _ _ => ⟨W.heap.size, hB.size, rfl, _, _, _, _, heap_alloc_new _ _⟩), RB.grow (Grow.alloc _ _), hB.trans ((Grow.alloc _ _).mono hB.size)⟩
    · intro listed a W hf hun haf
      have hs1 : a.tmps.size = 73 := hf.alike.size.trans hsz
      have hB : Below w3.heap.size w3 W := hf.world
      obtain ⟨v7, s7, q7⟩ := hf.slot 7 25 rfl (after_listed haf 7 (by kernel_rfl))
      obtain ⟨ya, yn, yc, q7⟩ := q7
      have q7' : v7 = _ := q7
      subst q7'
      have G25 := tmp_get s7 (by rw [hs1]; decide)
      obtain ⟨v9, s9, q9⟩ := hf.slot 9 3 rfl (after_listed haf 9 (by kernel_rfl))
      obtain ⟨b9, l9, q9, x0, x1, x2, x3, c9⟩ := q9
      have q9' : v9 = _ := q9
      subst q9'
      have G3 := tmp_get s9 (by rw [hs1]; decide)
      obtain ⟨z0, z1, z2, z3⟩ := cells4 c9
      have lW := lt_of_getElem? c9
      have fy : ∀ i, W.frozen? ⟨b9, i, none⟩ = false := fun i => by simp [World.frozen?, c9]
      refine wpOp_act rfl (by rfl) (fun K' hK' => ?_)
      go_simp
      exact hK' _ _ ⟨undef, rfl, (fun _ h => by cases h), RB.set4 c9 _ _ _ _, set4_below hB l9 _ _ _ _⟩
    · intro listed a W hf hun haf
      have hs1 : a.tmps.size = 73 := hf.alike.size.trans hsz
      have hB : Below w3.heap.size w3 W := hf.world
      obtain ⟨v8, s8, q8⟩ := hf.slot 8 26 rfl (after_listed haf 8 (by kernel_rfl))
      have q8' : v8 = _ := q8
      subst q8'
      have G26 := tmp_get s8 (by rw [hs1]; decide)
      refine wpOp_act rfl (by rfl) (fun K' hK' => ?_)
      go_simp
      exact hK' _ _ ⟨_, rfl, (fun _ _ => rfl), RB.refl _, hB⟩
  case rest =>
  obtain ⟨rfl, hg3⟩ := hcut
  obtain ⟨w4, hw4⟩ : ∃ x, x = wc := ⟨_, rfl⟩
  subst hw4
  replace Hvb := Lib.hid (hg3.heap Hvb.out)
  replace Hto := Lib.hid (Hto.out.trans hg3)
  replace lv := lt_of_getElem? Hvb.out
  clear hg3
  go_upto_region 3 with fail
  go_cut [6] from 27 to 35 (fun c wx => c = .int .i64 0 ∧ Grow w4 wx)
  case first =>
    rename_i J K hJ hK
    refine wp_frame (fun a0 ha0 => ?_)
    have F1 : a0.tmps[1]? = some (.pointer (some ⟨vb, 0, none⟩)) := by rw [ha0]; rfl
    have hsz : a0.tmps.size = 73 := by rw [ha0]; rfl
    have Hrest : Hid (∀ a1 wx, FrameBut [5, 6, 27, 28, 29, 30, 31, 32, 33, 34, 35] a0 a1 → a1.tmps[6]? = some (.int .i64 0) → Grow w4 wx → K a1 wx) := Lib.hid (fun a1 wx ha h1 h2 => by
      refine hK _ _ (hJ _ _ ?_)
      refine ⟨a1.tmps.getD 5 undef, a1.tmps.getD 6 undef, a1.tmps.getD 27 undef, a1.tmps.getD 28 undef, a1.tmps.getD 29 undef, a1.tmps.getD 30 undef, a1.tmps.getD 31 undef, a1.tmps.getD 32 undef, a1.tmps.getD 33 undef, a1.tmps.getD 34 undef, a1.tmps.getD 35 undef, ⟨by rw [Array.getD_eq_getD_getElem?, h1]; rfl, h2⟩, ha.fill.trans ?_⟩
      subst ha0
      kernel_rfl)
    clear ha0 hK hJ
    refine wp_region_flow (SK w4 (.slice ca kV.tabs.length cc) kV kt3 (0, ⟨[kt3, kt1], 0, 2, 0⟩)) (TK w4) RB [5, 6, 27, 28, 29, 30, 31, 32, 33, 34, 35] (by kernel_rfl) (by kernel_rfl) (by rw [hsz]; rfl) SK.keep (Grow.drew _) ?_ (fun a1 W hf => ?_)
    rotate_left
    · obtain ⟨v, hv, hq⟩ := hf.slot 11 6 (by rfl) (by rfl)
      have hq' : v = _ := hq
      rw [hq'] at hv
      exact Hrest.out a1 W hf.alike hv hf.world
    clear Hrest
    refine ⟨?_, ?_, ?_, ?_, ?_, ?_, ?_, ?_, ?_, ?_, ?_, ?_, True.intro⟩
    · intro listed a W hf hun haf
      have hs1 : a.tmps.size = 73 := hf.alike.size.trans hsz
      have hB : Below w4.heap.size w4 W := hf.world
      have G1 : a.tmps[1]'(by rw [hs1]; decide) = .pointer (some ⟨vb, 0, none⟩) := tmp_get ((hf.alike.same 1 (by decide)).trans F1) _
      have hv := hB.block _ lv
      rw [Hvb.out] at hv
      obtain ⟨x0, x1, x2, x3⟩ := cells4 hv
      have lW := lt_of_getElem? hv
      refine wpOp_act rfl (by rfl) (fun K' hK' => ?_)
      go_simp
      exact hK' _ _ ⟨_, rfl, (fun _ _ => rfl), RB.refl _, hB⟩
    · intro listed a W hf hun haf
      have hs1 : a.tmps.size = 73 := hf.alike.size.trans hsz
      have hB : Below w4.heap.size w4 W := hf.world
      refine wpOp_call rfl (by rfl) (by go_simp) (table_any 2 0 ⟨#[99]⟩ ⟨#[100]⟩ W) ?_
      rintro e w7 ⟨rfl, hg7⟩
      exact ⟨_, rfl, _, rfl, (fun _ _ => rfl), RB.grow hg7, hB.trans (hg7.mono hB.size)⟩
    · intro listed a W hf hun haf
      have hs1 : a.tmps.size = 73 := hf.alike.size.trans hsz
      have hB : Below w4.heap.size w4 W := hf.world
      obtain ⟨v1, s1, q1⟩ := hf.slot 1 29 rfl (after_listed haf 1 (by kernel_rfl))
      have q1' : v1 = _ := q1
      subst q1'
      have G29 := tmp_get s1 (by rw [hs1]; decide)
      refine wpOp_act rfl (by rfl) (fun K' hK' => ?_)
      go_simp
      exact hK' _ (W.alloc (.cells #[.int .i64 kt3.file, .int .i64 kt3.level, .string kt3.first, .string kt3.last, .int .i64 kt3.size] 38)) ⟨_, rfl, (fun _ _ => ⟨W.heap.size, rfl, heap_alloc_new _ _⟩), RB.grow (Grow.alloc _ _), hB.trans ((Grow.alloc _ _).mono hB.size)⟩
    · intro listed a W hf hun haf
      have hs1 : a.tmps.size = 73 := hf.alike.size.trans hsz
      have hB : Below w4.heap.size w4 W := hf.world
      obtain ⟨v2, s2, q2⟩ := hf.slot 2 30 rfl (after_listed haf 2 (by kernel_rfl))
      obtain ⟨b2, q2, c2⟩ := q2
      have q2' : v2 = _ := q2
      subst q2'
      have G30 := tmp_get s2 (by rw [hs1]; decide)
      refine wpOp_act rfl (by rfl) (fun K' hK' => ?_)
      go_simp
      exact hK' _ _ ⟨_, rfl, (fun _ _ => ⟨b2, rfl, c2⟩), RB.refl _, hB⟩
    · intro listed a W hf hun haf
      have hs1 : a.tmps.size = 73 := hf.alike.size.trans hsz
      have hB : Below w4.heap.size w4 W := hf.world
      obtain ⟨v3, s3, q3⟩ := hf.slot 3 31 rfl (after_listed haf 3 (by kernel_rfl))
      obtain ⟨b3, q3, c3⟩ := q3
      have q3' : v3 = _ := q3
      subst q3'
      have G31 := tmp_get s3 (by rw [hs1]; decide)
      refine wpOp_act rfl (by rfl) (fun K' hK' => ?_)
      go_simp
      exact hK' _ (W.alloc (.cells (edCells (.slice (some ⟨b3, 0, none⟩) 1 1) (.slice none 0 0) 0 0 0) 31)) ⟨_, rfl, (fun _ _ => ⟨W.heap.size, b3, rfl, heap_alloc_new _ _, (Grow.alloc _ _).heap c3⟩), RB.grow (Grow.alloc _ _), hB.trans ((Grow.alloc _ _).mono hB.size)⟩
    · intro listed a W hf hun haf
      have hs1 : a.tmps.size = 73 := hf.alike.size.trans hsz
      have hB : Below w4.heap.size w4 W := hf.world
      obtain ⟨v0, s0, q0⟩ := hf.slot 0 28 rfl (after_listed haf 0 (by kernel_rfl))
      have q0' : v0 = _ := q0
      subst q0'
      have G28 := tmp_get s0 (by rw [hs1]; decide)
      obtain ⟨v4, s4, q4⟩ := hf.slot 4 32 rfl (after_listed haf 4 (by kernel_rfl))
      obtain ⟨b4, t4, q4, c4, d4⟩ := q4
      have q4' : v4 = _ := q4
      subst q4'
      have G32 := tmp_get s4 (by rw [hs1]; decide)
      have hcall := Apply_any HA.out (B := 0) (V := kV) (owns_grow Hown2.out (Hto.out.trans hB)) (by decide) (edits_one (e := kE3) c4 (tabs_one (t := kt3) d4) (ints_nil _)) (by decide) (by decide)
      rw [k3] at hcall
      refine wpOp_call rfl (by rfl) (by go_simp) hcall ?_
      rintro e w7 ⟨v7, rfl, hown7, hg7⟩
      obtain ⟨ya, yc, rfl⟩ := own_slice hown7
      exact ⟨_, rfl, _, rfl, (fun _ _ => ⟨_, _, _, rfl⟩), RB.grow hg7, hB.trans (hg7.mono hB.size)⟩
    · intro listed a W hf hun haf
      have hs1 : a.tmps.size = 73 := hf.alike.size.trans hsz
      have hB : Below w4.heap.size w4 W := hf.world
      obtain ⟨v5, s5, q5⟩ := hf.slot 5 33 rfl (after_listed haf 5 (by kernel_rfl))
      obtain ⟨ya, yn, yc, q5⟩ := q5
      have q5' : v5 = _ := q5
      subst q5'
      have G33 := tmp_get s5 (by rw [hs1]; decide)
      refine wpOp_act rfl (by rfl) (fun K' hK' => ?_)
      go_simp
      exact hK' _ _ ⟨_, rfl, (fun _ _ => ⟨_, _, _, rfl⟩), RB.refl _, hB⟩
    · intro listed a W hf hun haf
      have hs1 : a.tmps.size = 73 := hf.alike.size.trans hsz
      have hB : Below w4.heap.size w4 W := hf.world
      obtain ⟨v6, s6, q6⟩ := hf.slot 6 27 rfl (after_listed haf 6 (by kernel_rfl))
      obtain ⟨ya, yn, yc, q6⟩ := q6
      have q6' : v6 = _ := q6
      subst q6'
      have G27 := tmp_get s6 (by rw [hs1]; decide)
      refine wpOp_act rfl (by rfl) (fun K' hK' => ?_)
      go_simp
      exact hK' _ _ ⟨_, rfl, (fun _ _ => ⟨_, _, _, rfl⟩), RB.refl _, hB⟩
    · intro listed a W hf hun haf
      have hs1 : a.tmps.size = 73 := hf.alike.size.trans hsz
      have hB : Below w4.heap.size w4 W := hf.world
      obtain ⟨v6, s6, q6⟩ := hf.slot 6 27 rfl (after_listed haf 6 (by kernel_rfl))
      obtain ⟨ya, yn, yc, q6⟩ := q6
      have q6' : v6 = _ := q6
      subst q6'
      have G27 := tmp_get s6 (by rw [hs1]; decide)
      refine wpOp_act rfl (by rfl) (fun K' hK' => ?_)
      go_simp
      exact hK' _ _ ⟨_, rfl, (fun _ _ => rfl), RB.refl _, hB⟩
    · intro listed a W hf hun haf
      have hs1 : a.tmps.size = 73 := hf.alike.size.trans hsz
      have hB : Below w4.heap.size w4 W := hf.world
      refine wpOp_act rfl (by rfl) (fun K' hK' => ?_)
      go_simp
      exact hK' _ (W.alloc (.cells (verCells (.slice none 0 0) 0 0 0) 27)) ⟨_, rfl, (fun _ _ => ⟨W.heap.size, hB.size, rfl, _, _, _, _, heap_alloc_new _ _⟩), RB.grow (Grow.alloc _ _), hB.trans ((Grow.alloc _ _).mono hB.size)⟩
    · intro listed a W hf hun haf
      have hs1 : a.tmps.size = 73 := hf.alike.size.trans hsz
      have hB : Below w4.heap.size w4 W := hf.world
      obtain ⟨v7, s7, q7⟩ := hf.slot 7 34 rfl (after_listed haf 7 (by kernel_rfl))
      obtain ⟨ya, yn, yc, q7⟩ := q7
      have q7' : v7 = _ := q7
      subst q7'
      have G34 := tmp_get s7 (by rw [hs1]; decide)
      obtain ⟨v9, s9, q9⟩ := hf.slot 9 5 rfl (after_listed haf 9 (by kernel_rfl))
      obtain ⟨b9, l9, q9, x0, x1, x2, x3, c9⟩ := q9
      have q9' : v9 = _ := q9
      subst q9'
      have G5 := tmp_get s9 (by rw [hs1]; decide)
      obtain ⟨z0, z1, z2, z3⟩ := cells4 c9
      have lW := lt_of_getElem? c9
      have fy : ∀ i, W.frozen? ⟨b9, i, none⟩ = false := fun i => by simp [World.frozen?, c9]
      refine wpOp_act rfl (by rfl) (fun K' hK' => ?_)
      go_simp
      exact hK' _ _ ⟨undef, rfl, (fun _ h => by cases h), RB.set4 c9 _ _ _ _, set4_below hB l9 _ _ _ _⟩
    · intro listed a W hf hun haf
      have hs1 : a.tmps.size = 73 := hf.alike.size.trans hsz
      have hB : Below w4.heap.size w4 W := hf.world
      obtain ⟨v8, s8, q8⟩ := hf.slot 8 35 rfl (after_listed haf 8 (by kernel_rfl))
      have q8' : v8 = _ := q8
      subst q8'
      have G35 := tmp_get s8 (by rw [hs1]; decide)
      refine wpOp_act rfl (by rfl) (fun K' hK' => ?_)
      go_simp
      exact hK' _ _ ⟨_, rfl, (fun _ _ => rfl), RB.refl _, hB⟩
  case rest =>
  obtain ⟨rfl, hg3⟩ := hcut
  obtain ⟨w5, hw4⟩ : ∃ x, x = wc := ⟨_, rfl⟩
  subst hw4
  replace Hvb := Lib.hid (hg3.heap Hvb.out)
  replace Hto := Lib.hid (Hto.out.trans hg3)
  replace lv := lt_of_getElem? Hvb.out
  clear hg3
  obtain ⟨x0, x1, x2, x3⟩ := cells4 Hvb.out
  go_wp2_with fail
  have hga : Grow w5 (w5.alloc (.cells #[.int .i64 7] 3)) := Grow.alloc _ _
  have hgb : Grow (w5.alloc (.cells #[.int .i64 7] 3)) ((w5.alloc (.cells #[.int .i64 7] 3)).alloc (.cells (edCells (.slice none 0 0) (.slice (some ⟨w5.heap.size, 0, none⟩) 1 1) 0 0 0) 31)) := Grow.alloc _ _
  have hta := heap_alloc_new w5 (.cells #[.int .i64 7] 3)
  have heb := heap_alloc_new (w5.alloc (.cells #[.int .i64 7] 3)) (.cells (edCells (.slice none 0 0) (.slice (some ⟨w5.heap.size, 0, none⟩) 1 1) 0 0 0) 31)
  have hsz : (w5.alloc (.cells #[.int .i64 7] 3)).heap.size = w5.heap.size + 1 := by simp
  rw [hsz] at heb
  have hcall := Apply_any HA.out (B := 0) (V := kV) (owns_grow Hown2.out ((Hto.out.trans hga).trans hgb)) (by decide) (edits_one (e := kE4) heb (tabs_nil _) (ints_one (hgb.heap hta))) (by decide) (by decide)
  rw [k4] at hcall
  (with_reducible refine hcall.mono ?_)
  rintro e w6 ⟨v6, rfl, hown6, hg6⟩
  have hg5 : Grow w5 w6 := (hga.trans hgb).trans hg6
  obtain ⟨ya, yc, rfl⟩ := own_slice hown6
  clear hcall hga hgb hta heb hsz hg6 hown6 x0 x1 x2 x3
  obtain ⟨x0, x1, x2, x3⟩ := cells4 (hg5.heap Hvb.out)
  have l6 := lt_of_getElem? (hg5.heap Hvb.out)
  have Hall := Lib.hid ((Hg02.out.trans Hto.out).trans hg5)
  have e1 : ((kV.tabs.length : Int) == 1) = true := rfl
  have e2 : (kV.next == 2) = true := rfl
  have e3 : ((15 : Int) == 15) = true := rfl
  have e4 : ((4 : Int) == 4) = true := rfl
  clear hg5
  go_wp2_with ((with_reducible refine (file3 _).mono ?_); rintro e w7 ⟨rfl, rfl⟩)
  go_ret
  exact ⟨rfl, Hall.out.trans (Grow.alloc _ _)⟩
end Go.Proofs.YtpdbjmodgiokmaaDoor
