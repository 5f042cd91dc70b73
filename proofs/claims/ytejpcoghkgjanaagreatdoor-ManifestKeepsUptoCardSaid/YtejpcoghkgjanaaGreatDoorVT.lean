/- Merged out of KI: helpers. -/
import Derived.Test.YtejpcoghkgjanaaGreatDoorVS
/- (*manifest.Set).open on a manifest of whole frames. -/
namespace Go.Proofs.YtejpcoghkgjanaaGreatDoor
open Go.RowKit Go.Gl Go.Wal Mn

/-- Where the loop of open stands. -/
structure OpI (Z B : Nat) (w3 : World) (p r : Nat) (f : Lk) (T K : Nat) (F : Nat → Prop) (sb n : Nat) (rv : Value) (es : List EdD) (V : VerD) (i : Nat) (wr : World) : Prop where
  gx : GX sb w3 wr
  set : ∃ tv U, SetAt wr sb p tv U n ∧ Own 0 wr tv U.tabs ∧ applyAllD verZero (es.take i) = (0, U) ∧ applyAllD U (es.drop i) = (0, V)

def OpInv (Z B : Nat) (w3 : World) (p r : Nat) (f : Lk) (T K : Nat) (F : Nat → Prop) (sb n : Nat) (rv : Value) (es : List EdD) (V : VerD) (iv ev : Value) (wr : World) : Prop :=
  ∃ i : Nat, iv = .int .i64 i ∧ i ≤ es.length ∧ ev = .int .i64 0 ∧ OpI Z B w3 p r f T K F sb n rv es V i wr

theorem own_ints {B : Nat} {w : World} {v : Value} {l : List Int} (h : OwnN B w v l) : Ints w v l := by
  rcases h with ⟨h1, h2⟩ | ⟨g, cap, cur, h1, h2, h3, h4, h5, h6, h7⟩
  · have hl : l = [] := by simpa using h2
    subst hl
    rw [h1]; exact ints_nil w
  · rw [List.length_map] at h1 h4 h7
    refine ⟨_, cap, h1, h4, .inr ⟨g, 0, rfl, lt_of_getElem? h3, fun j k hk => ?_⟩⟩
    have hj : j < l.length := by
      rcases Nat.lt_or_ge j l.length with h | h
      · exact h
      · rw [List.getElem?_eq_none h] at hk; cases hk
    have h8 : cur.toList[j]? = some (.int .i64 k) := by
      have := congrArg (fun x => x[j]?) h7
      simp only [List.getElem?_take, hj, if_true, List.getElem?_map, hk, Option.map_some] at this
      exact this
    rw [Nat.zero_add]
    simp only [World.cell?, h3]
    rw [← h8]
    simp

theorem le_sum_mem {x : Nat} : ∀ {l : List Nat}, x ∈ l → x ≤ l.sum
  | a :: l, h => by
    rcases List.mem_cons.1 h with rfl | h
    · simp
    · have := le_sum_mem h; simp; omega

theorem applyAll_snoc {e : EdD} {U : VerD} : ∀ {a : List EdD} {v W : VerD}, applyAllD v a = (0, U) → (applyD U e).1 = 0 → W = (applyD U e).2 → applyAllD v (a ++ (some e).toList) = (0, W)
  | [], v, W, h, h0, hp => by
    simp only [applyAllD, Prod.mk.injEq, true_and] at h
    subst h
    show applyAllD v [e] = _
    rw [applyAll_one, if_pos h0, hp]
  | x :: a, v, W, h, h0, hp => by
    rw [List.cons_append]
    unfold applyAllD at h ⊢
    by_cases hx : (applyD v x).1 = 0
    · rw [if_pos hx] at h ⊢
      exact applyAll_snoc h h0 hp
    · rw [if_neg hx] at h
      exact absurd (congrArg Prod.fst h) hx

/-- What the region of Apply reads. -/
abbrev OpS (sb eb : Nat) (tv : Value) (U : VerD) (x0 x1 x2 x3 x4 : Value) (W : World) : Prop :=
  (W.cell? ⟨sb, 1, none⟩ = some tv ∧ W.cell? ⟨sb, 2, none⟩ = some (.int .u64 U.seq) ∧ W.cell? ⟨sb, 3, none⟩ = some (.int .i64 U.next) ∧ W.cell? ⟨sb, 4, none⟩ = some (.int .i64 U.wal) ∧ sb < W.heap.size) ∧
  (W.cell? ⟨eb, 0, none⟩ = some x0 ∧ W.cell? ⟨eb, 1, none⟩ = some x1 ∧ W.cell? ⟨eb, 2, none⟩ = some x2 ∧ W.cell? ⟨eb, 3, none⟩ = some x3 ∧ W.cell? ⟨eb, 4, none⟩ = some x4 ∧ eb < W.heap.size)
theorem opS_of {sb p eb : Nat} {tv : Value} {V : VerD} {n : Int} {x0 x1 x2 x3 x4 : Value} {W : World} (hS : SetAt W sb p tv V n) (hb : W.heap[eb]? = some (.cells #[x0, x1, x2, x3, x4] 41 (0, 0))) : OpS sb eb tv V x0 x1 x2 x3 x4 W := by
  obtain ⟨_, c1, c2, c3, c4, _, ls⟩ := hS.cells
  obtain ⟨e0, e1, e2, e3, e4⟩ := cells5 hb
  exact ⟨⟨c1, c2, c3, c4, ls⟩, e0, e1, e2, e3, e4, lt_of_getElem? hb⟩

theorem apply_step {U V : VerD} {e : EdD} {l : List EdD} (h : applyAllD U (e :: l) = (0, V)) : (applyD U e).1 = 0 ∧ applyAllD (applyD U e).2 l = (0, V) ∧ applyAllD U [e] = (0, (applyD U e).2) := by
  unfold applyAllD at h
  by_cases h0 : (applyD U e).1 = 0
  · rw [if_pos h0] at h
    exact ⟨h0, h, by rw [applyAll_one, if_pos h0]⟩
  · rw [if_neg h0] at h
    exact absurd (congrArg Prod.fst h) h0

set_option maxRecDepth 100000 in
set_option maxHeartbeats 8000000 in
theorem open_old {Z B N : Nat} {w : World} {p r : Nat} {f : Lk} {T K : Nat} {F : Nat → Prop} {sb : Nat} {m : Int} (hS : SetAt w sb p (.slice none 0 0) verZero m) (h : Dl Z B w p r f T K F) (hB : B ≤ sb) (hN : Nums N B w) {n : Nat} (hn : n < N) (h6 : n < 1000000)
    {q0 s1 : Nat} (hcur : f curN = some (digB n, q0)) {es : List EdD} (hman : f (manN n) = some (framesD crcTab (es.map encD), s1))
    (hes : ∀ e ∈ es, EdFit e ∧ e.drop.length ≤ 10000 ∧ (encD e).length ≤ 67108864) (hsum : (es.map (fun e => e.add.length)).sum ≤ 5000) (hel : es.length ≤ 1000000) {V : VerD} (hV : applyAllD verZero es = (0, V)) :
    Calls Tryz.prog 16 #[.pointer (some ⟨sb, 0, none⟩)] w fun e w' => e = .returned .nilIface ∧ (∃ tv, SetAt w' sb p tv V n ∧ Own 0 w' tv V.tabs) ∧ (∃ F', Dl Z B w' p r f T K F') ∧ Rl B w w' := by
  obtain ⟨c0, _, _, _, _, _, ls⟩ := hS.cells
  have hrd := dl_read h curN
  rw [hcur] at hrd
  have hlen := h.len hman
  have hTZ := h.total
  have hZ := h.size
  have Hrd := Lib.hid hrd
  have H := Lib.hid h
  have HS := Lib.hid hS
  have HN := Lib.hid hN
  have Hman := Lib.hid hman
  have HV := Lib.hid hV
  have Hes := Lib.hid hes
  clear h hS hN hrd hman hV hes hcur
  go_enter Tryz.func16, Tryz.ntmps16
  go_wp2_with fail
  (with_reducible refine Hrd.out.mono ?_)
  rintro e w1 ⟨⟨v, rfl, hv⟩, hg1⟩
  obtain ⟨va, vc, rfl⟩ := hv.slice
  have Hv := Lib.hid hv
  have Hg1 := Lib.hid hg1
  clear hv hg1 Hrd
  go_wp2_with fail
  (with_reducible refine (errIs_any 0 w1).mono ?_)
  rintro e w2 ⟨rfl, hw⟩
  have hw' := hw.symm
  subst hw'
  clear hw
  have Hsd := Lib.hid (said_any (HN.out.grow Hg1.out H.out.base) (Nat.le_trans H.out.base Hg1.out.size) hn h6 (ownB_bv Hv.out))
  have eq4 : ((0 : Int) == 4) = false := rfl
  rw [eq4]
  clear c0 ls
  go_wp2_with fail
  (with_reducible refine Hsd.out.mono ?_)
  rintro e w2 ⟨rfl, hg2⟩
  have hg02 := Hg1.out.trans hg2
  have HS2 := Lib.hid (HS.out.grow hg02)
  have H2 := Lib.hid (H.out.grow hg02)
  have HN2 := Lib.hid (HN.out.grow hg02 H.out.base)
  have Hr2 := Lib.hid (Rl.grow hg02 H.out.base)
  clear hg2 hg02 Hsd HS H HN Hg1 Hv
  go_upto_region 7 with fail
  obtain ⟨c0, _, _, _, _, _, ls⟩ := HS2.out.cells
  refine wp_region_pi (fun W => W.cell? ⟨sb, 0, none⟩ = some (.pointer (some ⟨p, 0, none⟩)) ∧ sb < W.heap.size) [(0, false), (1, false), (2, false), (3, false), (4, false), (5, true), (6, true), (7, false), (8, false), (9, false), (10, false), (11, false)] (by kernel_rfl) (by kernel_rfl) (fun c a d v w h => by cases d <;> exact h) ⟨by simpa using c0, by simpa using ls⟩ ?_
  simp only [arrange, nth]
  clear c0 ls
  repeat (first | (refine wpPi_quiet (v := ?_) (by rfl) (fun W hW => ?_) ?_; rotate_left; (obtain ⟨hW0, hW1⟩ := hW; go_simp; with_reducible rfl); simp only [Act.put, List.setIfInBounds_toArray, List.set_cons_zero, List.set_cons_succ]) | (refine wpPi_off (by rfl) ?_; simp only [Act.put, List.setIfInBounds_toArray, List.set_cons_zero, List.set_cons_succ]))
  have hgd := Grow.drew w2
  refine wpPi_call (by rfl) (by go_simp) (mname_any (HN2.out.grow hgd H2.out.base) hn h6) ?_
  rintro e w3 ⟨rfl, hg3⟩
  have hg23 := hgd.trans hg3
  obtain ⟨c0, _, _, _, _, _, ls⟩ := (HS2.out.grow hg23).cells
  refine ⟨_, rfl, ⟨c0, ls⟩, ?_⟩
  try simp only [Act.put, List.setIfInBounds_toArray, List.set_cons_zero, List.set_cons_succ]
  have hd3 := H2.out.grow hg23
  have hrd := dl_read hd3 (manN n)
  rw [Hman.out] at hrd
  refine wpPi_call (by rfl) (by go_simp) hrd ?_
  rintro e w4 ⟨⟨v, rfl, hv⟩, hg4⟩
  obtain ⟨xa, xc, rfl⟩ := hv.slice
  have hg24 := hg23.trans hg4
  obtain ⟨d0, _, _, _, _, _, ld⟩ := (HS2.out.grow hg24).cells
  refine ⟨_, rfl, ⟨d0, ld⟩, ?_⟩
  try simp only [Act.put, List.setIfInBounds_toArray, List.set_cons_zero, List.set_cons_succ]
  repeat (first | (refine wpPi_quiet (v := ?_) (by rfl) (fun W hW => ?_) ?_; rotate_left; (obtain ⟨hW0, hW1⟩ := hW; go_simp; with_reducible rfl); simp only [Act.put, List.setIfInBounds_toArray, List.set_cons_zero, List.set_cons_succ]) | (refine wpPi_off (by rfl) ?_; simp only [Act.put, List.setIfInBounds_toArray, List.set_cons_zero, List.set_cons_succ]))
  refine wpPi_nil ?_
  have HS4 := Lib.hid (HS2.out.grow hg24)
  have H4 := Lib.hid (H2.out.grow hg24)
  have Hr4 := Lib.hid (Hr2.out.trans (Rl.grow hg24 H2.out.base))
  have Hv := Lib.hid hv
  clear hgd hg3 hg23 hg4 hg24 hd3 hrd hv c0 ls d0 ld HS2 H2 HN2 Hr2
  have hS4' : w4.heap[sb]? = some (.cells (setCells p (.slice none 0 0) verZero m) 58 (0, 0)) := HS4.out
  have ls4 := lt_of_getElem? hS4'
  have c5 : w4.cell? ⟨sb, 5, none⟩ = some (.int .i64 m) := by simp [World.cell?, hS4']
  have f4 : ∀ i, w4.frozen? ⟨sb, i, none⟩ = false := fun i => by simp [World.frozen?, hS4']
  have hS5 : SetAt (w4.setCell ⟨sb, 5, none⟩ (.int .i64 (n : Int))) sb p (.slice none 0 0) verZero n := Go.Gl.setCell_heap hS4' 5 _
  have hd5 := H4.out.setS hS4' 5 (.int .i64 (n : Int))
  have hr5 := Hr4.out.trans (Rl.set hS4' hB 5 (.int .i64 (n : Int)))
  have hv5 : OwnB w3.heap.size (w4.setCell ⟨sb, 5, none⟩ (.int .i64 (n : Int))) (.slice xa (framesD crcTab (es.map encD)).length xc) (framesD crcTab (es.map encD)) := Row1.gx Hv.out hS4' (by decide) (Go.Gl.grown_setCell _ _ _ _)
  have hlen' : (framesD crcTab (es.map encD)).length ≤ T := hlen
  have Hrf0 := readFrames_any (ownB_bv hv5) (by omega)
  have hw0 : rfD crcTab (framesD crcTab (es.map encD)) = (es.map encD, (framesD crcTab (es.map encD)).length, 0) := rf_whole crcTab (es.map encD) (fun x hx => by obtain ⟨e, he, rfl⟩ := List.mem_map.1 hx; exact (Hes.out e he).2.2)
  rw [hw0] at Hrf0
  have Hrf := Lib.hid Hrf0
  generalize (framesD crcTab (es.map encD)).length = FL at *
  have HS5 := Lib.hid hS5
  have Hd5 := Lib.hid hd5
  have Hr5 := Lib.hid hr5
  clear hS5 hd5 hr5 hv5 hw0 Hrf0 hlen' hS4'
  go_upto_region 11 with fail
  clear c5 f4 ls4
  generalize w4.setCell ⟨sb, 5, none⟩ (.int .i64 (n : Int)) = w5 at *
  clear HS4 H4 Hr4 Hv
  go_wp2_with fail
  (with_reducible refine Hrf.out.mono ?_)
  rintro e w6 ⟨rv, rfl, hrv, hg6⟩
  obtain ⟨ra, rc, hrs⟩ := hrv.slice
  rw [List.length_map] at hrs
  subst hrs
  have HS6 := Lib.hid (HS5.out.grow hg6)
  have Hd6 := Lib.hid (Hd5.out.grow hg6)
  have Hr6 := Lib.hid (Hr5.out.trans (Rl.grow hg6 Hd5.out.base))
  have Hrv := Lib.hid hrv
  have Hst : Hid (OpInv Z B w6 p r f T K F sb n (.slice ra es.length rc) es V (.int .i64 0) (.int .i64 0) w6) := Lib.hid ⟨0, rfl, Nat.zero_le _, rfl, GX.refl _ _, .slice none 0 0, verZero, HS6.out, World.ownsRow_nil _ _ _ _, rfl, by simpa using HV.out⟩
  clear hg6 hrv Hrf HS5 Hd5 Hr5
  go_wp2_with fail
  go_loopw [61, 4] (fun iv ev wr => OpInv Z B w6 p r f T K F sb n (.slice ra es.length rc) es V iv ev wr) (fun iv _ _ => es.length - (intOf iv).toNat)
  case atStart => exact Hst.out
  case round =>
    obtain ⟨i, rfl, hi, rfl, hI⟩ := hrel
    obtain ⟨tv, U, hSr, hown, hU1, hU2⟩ := hI.set
    obtain ⟨ua, uc, rfl⟩ := own_slice hown
    have hS6' : w6.heap[sb]? = some _ := HS6.out
    by_cases hlt : i < es.length
    · obtain ⟨e, he⟩ : ∃ e, es[i]? = some e := ⟨es[i], by simp [hlt]⟩
      obtain ⟨_, _, e0, hh⟩ := (OwnR.gx Hrv.out hS6' hI.gx).rv
      rw [List.length_map] at e0
      cases e0
      obtain ⟨b, o, rfl, hb, hcell⟩ : ∃ b o, ra = some ⟨b, o, none⟩ ∧ b < wr.heap.size ∧ ∀ (j : Nat) (x : List UInt8), (es.map encD)[j]? = some x → ∃ pv, wr.cell? ⟨b, o + j, none⟩ = some pv ∧ Bv wr pv x := by
        rcases hh with h1 | h1
        · have := congrArg List.length h1
          rw [List.length_map] at this
          simp at this
          subst this
          simp at hlt
        · exact h1
      obtain ⟨pv, hpc, hbv⟩ := hcell i (encD e) (by rw [List.getElem?_map, he]; rfl)
      obtain ⟨hfit, hdl, hle⟩ := Hes.out e (List.mem_of_getElem? he)
      have Hdec := Lib.hid (decode_ok hfit hbv (by omega))
      obtain ⟨pa, pc, rfl⟩ := hbv.slice
      generalize (encD e).length = EL at *
      have hi1 : (i : Int) < (es.length : Int) := by omega
      have hi0 : (0 : Int) ≤ (i : Int) := by omega
      have hwi : IntKind.i64.wrap ((i : Int) + 1) = (i : Int) + 1 := IntWalk.i64_in _ (by omega)
      have HI := Lib.hid hI
      have HSr := Lib.hid hSr
      have Hown := Lib.hid hown
      have HU := Lib.hid (And.intro hU1 hU2)
      have He := Lib.hid he
      clear hI hSr hown hU1 hU2 he hh hcell hbv hS6' hfit
      go_wp2_with fail
      (with_reducible refine Hdec.out.mono ?_)
      rintro e' w7 ⟨tx, dx, rfl, htx, hdx, hg7⟩
      obtain ⟨ta, tc, rfl⟩ := own_slice htx
      obtain ⟨da, dc, hds⟩ := hdx.slice
      rw [List.length_map] at hds
      subst hds
      have Htx := Lib.hid htx
      have Hdx := Lib.hid hdx
      have Hg7 := Lib.hid hg7
      clear htx hdx hg7 hle
      go_upto_region 18 with fail
      have hga := Grow.alloc w7 (.cells (edCells (.slice ta e.add.length tc) (.slice da e.drop.length dc) e.seq e.next e.wal) 41)
      have hb8 := heap_alloc_new w7 (.cells (edCells (.slice ta e.add.length tc) (.slice da e.drop.length dc) e.seq e.next e.wal) 41)
      have hsz : (w7.alloc (.cells (edCells (.slice ta e.add.length tc) (.slice da e.drop.length dc) e.seq e.next e.wal) 41)).heap.size = w7.heap.size + 1 := by simp
      generalize w7.alloc (.cells (edCells (.slice ta e.add.length tc) (.slice da e.drop.length dc) e.seq e.next e.wal) 41) = wa at *
      have hgb := Grow.alloc wa (.cells (verCells (.slice none 0 0) 0 0 0) 38)
      have hv8 := heap_alloc_new wa (.cells (verCells (.slice none 0 0) 0 0 0) 38)
      rw [hsz] at hv8
      generalize wa.alloc (.cells (verCells (.slice none 0 0) 0 0 0) 38) = w8 at *
      have hg78 := hga.trans hgb
      have hb8' := hgb.heap hb8
      have hgr8 := Hg7.out.trans hg78
      have HS8 := Lib.hid (HSr.out.grow hgr8)
      have Hown8 := Lib.hid (owns_grow Hown.out hgr8)
      have Htx8 := Lib.hid (own_tabs (owns_grow Htx.out hg78))
      have Hdx8 := Lib.hid (own_ints (Hdx.out.grow hg78))
      have Hb8 := Lib.hid hb8'
      have Hv8 := Lib.hid hv8
      have Hgr8 := Lib.hid hgr8
      have hvbr : wr.heap.size ≤ w7.heap.size := Hg7.out.size
      generalize w7.heap.size = eb at *
      clear hga hb8 hsz hgb hv8 hg78 hb8' hgr8 Htx Hdx Hg7
      refine wp_region_pi (OpS sb eb (.slice ua U.tabs.length uc) U (.slice ta e.add.length tc) (.slice da e.drop.length dc) (.int .u64 e.seq) (.int .i64 e.next) (.int .i64 e.wal)) [(0, false), (1, false), (2, false), (3, false), (4, false), (5, true), (6, true), (7, false), (8, false), (9, false), (10, true), (11, false)] (by kernel_rfl) (by kernel_rfl) (fun c a d v w h => by cases d <;> exact h) (opS_of (HS8.out.grow (Grow.drew _)) ((Grow.drew _).heap Hb8.out)) ?_
      simp only [arrange, nth]
      repeat (first | (refine wpPi_quiet (v := ?_) (by rfl) (fun W hW => ?_) ?_; rotate_left; (obtain ⟨⟨hW0, hW1, hW2, hW3, hW4⟩, hW5, hW6, hW7, hW8, hW9, hW10⟩ := hW; go_simp; with_reducible rfl); simp only [Act.put, List.setIfInBounds_toArray, List.set_cons_zero, List.set_cons_succ]) | (refine wpPi_off (by rfl) ?_; simp only [Act.put, List.setIfInBounds_toArray, List.set_cons_zero, List.set_cons_succ]))
      have hgd := Grow.drew w8
      have hga := Grow.alloc w8.drew (.cells (edCells (.slice ta e.add.length tc) (.slice da e.drop.length dc) e.seq e.next e.wal) 41)
      have hg89 := hgd.trans hga
      have hq := heap_alloc_new w8.drew (.cells (edCells (.slice ta e.add.length tc) (.slice da e.drop.length dc) e.seq e.next e.wal) 41)
      have hrun := run_buildE1 w8.drew ta e.add.length tc da e.drop.length dc e.seq e.next e.wal
      have ul : U.tabs.length ≤ 5000 := by
        have h1 := applyAll_len _ HU.out.1
        have h2 : ((es.take i).map (fun e => e.add.length)).sum ≤ (es.map (fun e => e.add.length)).sum := by
          conv => rhs; rw [← List.take_append_drop i es, List.map_append, List.sum_append]
          omega
        have h3 : verZero.tabs.length = 0 := rfl
        omega
      have hal : e.add.length ≤ 5000 := by
        have h2 : e.add.length ≤ (es.map (fun e => e.add.length)).sum := le_sum_mem (List.mem_map.2 ⟨e, List.mem_of_getElem? He.out, rfl⟩)
        omega
      have hdr : es.drop i = e :: es.drop (i + 1) := by
        rw [List.drop_eq_getElem_cons hlt]
        have := He.out
        rw [List.getElem?_eq_getElem hlt] at this
        rw [Option.some.inj this]
      obtain ⟨hu0, hu1, hu2⟩ := apply_step (hdr ▸ HU.out.2)
      obtain ⟨AP, hAP⟩ : ∃ x, x = (applyD U e).2 := ⟨_, rfl⟩
      rw [← hAP] at hu1 hu2
      have Hu0 := Lib.hid hu0
      have Hu1 := Lib.hid hu1
      have Hap := Lib.hid hAP
      clear hu0 hu1 hAP
      refine wpPi_act (by rfl) (fun K hK => ?_)
      go_simp
      refine hK _ _ ⟨opS_of (HS8.out.grow hg89) (hg89.heap Hb8.out), ?_⟩
      clear hK K
      try simp only [Act.put, List.setIfInBounds_toArray, List.set_cons_zero, List.set_cons_succ]
      have hap := Apply_any apply_ok (owns_grow Hown8.out hg89) ul (edits_one hq (Htx8.out.grow hg89) (Hdx8.out.grow hg89)) (by simp) (by intro x hx; rw [List.mem_singleton.1 hx]; exact ⟨hal, hdl⟩)
      rw [hu2] at hap
      refine wpPi_call (by rfl) (by go_simp) hap ?_
      rintro e' w9 ⟨tv', rfl, ho, hg9⟩
      have hg8 := hg89.trans hg9
      refine ⟨_, rfl, opS_of (HS8.out.grow hg8) (hg8.heap Hb8.out), ?_⟩
      try simp only [Act.put, List.setIfInBounds_toArray, List.set_cons_zero, List.set_cons_succ]
      repeat (first | (refine wpPi_quiet (v := ?_) (by rfl) (fun W hW => ?_) ?_; rotate_left; (obtain ⟨⟨hW0, hW1, hW2, hW3, hW4⟩, hW5, hW6, hW7, hW8, hW9, hW10⟩ := hW; go_simp; with_reducible rfl); simp only [Act.put, List.setIfInBounds_toArray, List.set_cons_zero, List.set_cons_succ]) | (refine wpPi_off (by rfl) ?_; simp only [Act.put, List.setIfInBounds_toArray, List.set_cons_zero, List.set_cons_succ]))
      obtain ⟨ya, yc, rfl⟩ := own_slice ho
      have hv9 := hg8.heap Hv8.out
      have hS9 := HS8.out.grow hg8
      have hb9 := hg8.heap Hb8.out
      obtain ⟨t0, t1, t2, t3⟩ := cells4 hv9
      have lt9 := lt_of_getElem? hv9
      have fr9 : ∀ i, w9.frozen? ⟨eb + 1, i, none⟩ = false := fun i => by simp [World.frozen?, hv9]
      have hset := set4 hv9 (.slice ya AP.tabs.length yc) (.int .u64 AP.seq) (.int .i64 AP.next) (.int .i64 AP.wal)
      have hoth := fun (c : Nat) (hc : c ≠ eb + 1) => set4_other (w := w9) hc (.slice ya AP.tabs.length yc) (.int .u64 AP.seq) (.int .i64 AP.next) (.int .i64 AP.wal)
      have hownA := set4_own (owns_mono ho (Nat.zero_le _)) hv9 (.slice ya AP.tabs.length yc) (.int .u64 AP.seq) (.int .i64 AP.next) (.int .i64 AP.wal)
      have hgrA := set4_below (Hgr8.out.trans hg8) (show wr.heap.size ≤ eb + 1 by omega) (.slice ya AP.tabs.length yc) (.int .u64 AP.seq) (.int .i64 AP.next) (.int .i64 AP.wal)
      have hsb : sb ≠ eb + 1 := fun h => by
        have hS9' : w9.heap[sb]? = some _ := hS9
        rw [h, hv9] at hS9'; cases hS9'
      have hSA := HSr.out.grow hgrA
      have hbA := (hoth eb (by omega)).trans hb9
      have opA := Lib.hid (opS_of hSA hbA)
      have HSA := Lib.hid hSA
      have HgrA := Lib.hid hgrA
      have HownA := Lib.hid hownA
      have Hset := Lib.hid hset
      clear hoth hset hownA hgrA hSA hbA hv9 hS9 hb9 hg8 hg9 hg89 hga hgd hq hrun hdr hsb ul hal
      refine wpPi_act (by rfl) (fun K hK => ?_)
      go_simp
      refine hK _ _ ⟨opA.out, ?_⟩
      clear hK K
      try simp only [Act.put, List.setIfInBounds_toArray, List.set_cons_zero, List.set_cons_succ]
      repeat (first | (refine wpPi_quiet (v := ?_) (by rfl) (fun W hW => ?_) ?_; rotate_left; (obtain ⟨⟨hW0, hW1, hW2, hW3, hW4⟩, hW5, hW6, hW7, hW8, hW9, hW10⟩ := hW; go_simp; with_reducible rfl); simp only [Act.put, List.setIfInBounds_toArray, List.set_cons_zero, List.set_cons_succ]) | (refine wpPi_off (by rfl) ?_; simp only [Act.put, List.setIfInBounds_toArray, List.set_cons_zero, List.set_cons_succ]))
      refine wpPi_nil ?_
      clear opA t0 t1 t2 t3 lt9 fr9
      generalize (((w9.setCell ⟨eb + 1, 0, none⟩ (.slice ya AP.tabs.length yc)).setCell ⟨eb + 1, 1, none⟩ (.int .u64 AP.seq)).setCell ⟨eb + 1, 2, none⟩ (.int .i64 AP.next)).setCell ⟨eb + 1, 3, none⟩ (.int .i64 AP.wal) = wb at *
      clear ho hap hu2 Hb8 Hv8 HS8 Hown8 Htx8 Hdx8 Hgr8
      have hHA : wb.heap[sb]? = some (.cells (setCells p (.slice ua U.tabs.length uc) U n) 58 (0, 0)) := HSA.out
      obtain ⟨_, c1, c2, c3, c4, _, lsb⟩ := HSA.out.cells
      have fsb : ∀ i, wb.frozen? ⟨sb, i, none⟩ = false := fun i => by simp [World.frozen?, hHA]
      obtain ⟨y0, y1, y2, y3⟩ := cells4 Hset.out
      have lvb := lt_of_getElem? Hset.out
      have Hrel : Hid (OpInv Z B w6 p r f T K F sb n (.slice (some ⟨b, o, none⟩) es.length rc) es V (.int .i64 ((i : Int) + 1)) (.int .i64 0) ((((wb.setCell ⟨sb, 1, none⟩ (.slice ya AP.tabs.length yc)).setCell ⟨sb, 2, none⟩ (.int .u64 AP.seq)).setCell ⟨sb, 3, none⟩ (.int .i64 AP.next)).setCell ⟨sb, 4, none⟩ (.int .i64 AP.wal))) := by
        have h2 := Go.Gl.setCell_heap hHA 1 (.slice ya AP.tabs.length yc)
        have h3 := Go.Gl.setCell_heap h2 2 (.int .u64 AP.seq)
        have h4 := Go.Gl.setCell_heap h3 3 (.int .i64 AP.next)
        have h5 := Go.Gl.setCell_heap h4 4 (.int .i64 AP.wal)
        have hgx : GX sb wb ((((wb.setCell ⟨sb, 1, none⟩ (.slice ya AP.tabs.length yc)).setCell ⟨sb, 2, none⟩ (.int .u64 AP.seq)).setCell ⟨sb, 3, none⟩ (.int .i64 AP.next)).setCell ⟨sb, 4, none⟩ (.int .i64 AP.wal)) :=
          (((Go.Gl.grown_setCell _ _ _ _ : GX sb _ _).trans (Go.Gl.grown_setCell _ _ _ _)).trans (Go.Gl.grown_setCell _ _ _ _)).trans (Go.Gl.grown_setCell _ _ _ _)
        refine Lib.hid ⟨i + 1, rfl, hlt, rfl, (HI.out.gx.trans (GX.of HgrA.out)).trans hgx, .slice ya AP.tabs.length yc, AP, h5, own_gx HownA.out hHA hgx, ?_, Hu1.out⟩
        rw [List.take_add_one, He.out]
        have := HU.out.1
        have hz := Hu0.out
        have hp := Hap.out
        exact applyAll_snoc this hz hp
      clear hHA HSA HgrA HownA Hset HI HSr Hown HU He Hu0 Hu1 Hap
      go_wp2
      go_roundw
      case rel => exact Hrel.out
      case measure => simp [intOf]; omega
    · obtain rfl : i = es.length := by omega
      have hUV : U = V := by
        rw [List.drop_length] at hU2
        simpa [applyAllD] using hU2
      subst hUV
      have hx : w6.heap[sb]? = some (.cells (setCells p (.slice none 0 0) verZero n) 58 (0, 0)) := HS6.out
      have Hend := Lib.hid (And.intro (Dl.gx Hd6.out hx hI.gx) (And.intro (Hr6.out.trans (Rl.gx hx hB hI.gx)) (And.intro hSr hown)))
      clear hI hSr hown hU1 hU2 hx Hrv HS6 Hd6 Hr6 HV
      have hi0 : ¬ ((es.length : Int) < (es.length : Int)) := by omega
      go_wp2
      go_ret
      exact ⟨rfl, ⟨_, Hend.out.2.2.1, Hend.out.2.2.2⟩, ⟨_, Hend.out.1⟩, Hend.out.2.1⟩
end Go.Proofs.YtejpcoghkgjanaaGreatDoor
