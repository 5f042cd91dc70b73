/- Merged out of E6, E7: helpers. -/
import Derived.Test.YtfchjoejdijjeaaCH
set_option linter.unusedSimpArgs false
set_option linter.unusedVariables false
/- A node: what is kept; Beat. -/
namespace Go.Proofs.Ytfchjoejdijjeaa
open Go.RowKit Go.Gl Go.Wal Go.Ch Go.Shelf
section
variable {C : Type} {f : C → List UInt8} {N : Nat → Prop} {w w' : World} {nb bb : Nat} {cv cfv sv : Value} {d : Nd} {b : Box C}

theorem comsF_snoc (c : C) : ∀ (k : Nat) (l : List C), comsF k (l ++ [c]) = comsF k l ++ [⟨k + l.length, c, false⟩]
  | k, [] => rfl
  | k, x :: l => by simp [comsF, comsF_snoc c (k + 1) l]; omega
theorem comsF_len : ∀ (k : Nat) (l : List C), (comsF k l).length = l.length
  | _, [] => rfl
  | k, x :: l => by simp [comsF, comsF_len (k + 1) l]
theorem entriesF_snoc (d : Nd) (m : Mem) (c : C) : ∀ (k : Nat) (l : List C), entriesF d m k (l ++ [c]) = entriesF d m k l ++ [⟨d.self, m.node, d.cfg.epoch, .entry (k + l.length) c⟩]
  | k, [] => rfl
  | k, x :: l => by simp [entriesF, entriesF_snoc d m c (k + 1) l]; omega
theorem entriesF_len (d : Nd) (m : Mem) : ∀ (k : Nat) (l : List C), (entriesF d m k l).length = l.length
  | _, [] => rfl
  | k, x :: l => by simp [entriesF, entriesF_len d m (k + 1) l]

def KpInv (f : C → List UInt8) (w : World) (b : Box C) (ov iv : Value) (wr : World) : Prop :=
  ∃ j p : Nat, p = b.first + j + 1 ∧ b.first + j ≤ b.cmds.length ∧ iv = .int .u64 (p : Int) ∧ OwnCs f w.heap.size wr ov (comsF (b.first + 1) ((b.cmds.drop b.first).take j)) ∧ Grow w wr
def KeptPost (f : C → List UInt8) (N : Nat → Prop) (w : World) (nb bb : Nat) (cv cfv sv : Value) (d : Nd) (b : Box C) (e : Ending) (w' : World) : Prop :=
  ∃ v, e = .returned v ∧ ComR f (fun x => w.heap.size ≤ x) w' v (keptC b) ∧ NdAt f N w' nb bb cv cfv sv d (keptB b) ∧ Sep (FN nb bb cv) w w' (FN nb bb cv)

/-- A node whose box alone has turned. -/
theorem NdAt.turn (h : NdAt f N w nb bb cv cfv sv d b) {cv' : Value} {b' : Box C} (hb : BxAt f (Nw N w (FB bb cv')) w' bb cv' b') (hs : Sep (FB bb cv) w w' (FB bb cv')) :
    NdAt f (Nw N w (FN nb bb cv')) w' nb bb cv' cfv sv d b' ∧ Sep (FN nb bb cv) w w' (FN nb bb cv') := by
  have hnb' : w'.heap[nb]? = some (.cells (nodeC cfv sv bb d) 79 (0, 0)) := by rw [hs.out nb h.lt h.ne]; exact h.blk
  have hs' : Sep (FN nb bb cv) w w' (FN nb bb cv') := Sep.tgt (hs.mono (fun x hx => .inr hx)) (fun x hx => by
    rcases hx with rfl | hx
    · exact .inl (.inl rfl)
    · exact (hs.foot x hx).imp .inr id)
  have hne : ¬ FB bb cv' nb := fun hF => by
    rcases hs.foot nb hF with h1 | h1
    · exact h.ne h1
    · have := h.lt; omega
  have hmono : ∀ x, Nw N w (FB bb cv') x → x < w'.heap.size → x ≠ nb → Nw N w (FN nb bb cv') x := fun x hx _ hxn => by
    rcases hx with hx | ⟨h1, h2⟩
    · exact .inl hx
    · refine .inr ⟨h1, fun hF => ?_⟩
      rcases hF with rfl | hF
      · exact hxn rfl
      · exact h2 hF
  refine ⟨⟨hnb', ?_, ?_, ?_, h.ep, h.slf, h.bir⟩, hs'⟩
  · refine ⟨hb.blk, ?_, ?_, hb.len, hb.fst, hb.ep⟩
    · obtain ⟨vals, r1, r2, r3⟩ := hb.row
      refine ⟨vals, r1, r2, fun i u c hu hc => ?_⟩
      have h1 := r3 i u c hu hc
      refine ⟨h1.1, h1.2.imp id (fun h2 x hx => ?_)⟩
      have hx2 := h2 x hx
      rcases hx2 with hx2 | ⟨h3, h4⟩
      · exact .inl hx2
      · refine .inr ⟨h3, fun hF => ?_⟩
        rcases hF with rfl | hF
        · have := h.lt; omega
        · exact h4 hF
    · intro x hx
      have := nw_apart h.apart hs'.foot x hx
      exact fun hF => this (.inr hF)
  · exact (h.cfg.mono (fun x hx hl => .inl ⟨hx, hl⟩)).kp (Kp.ofSep hs (fun x hx => by
      rcases hx with ⟨hx, hl⟩ | ⟨hx, hn⟩
      · exact h.box.apart x hx
      · intro hF
        rcases hF with rfl | hF
        · have := h.box.lt (x := x) (.inl rfl); omega
        · have := h.box.lt (.inr hF); omega))
  · rintro x (⟨h1, h2⟩ | ⟨h1, h2⟩) rfl
    · exact h.own _ h1 rfl
    · have := h.lt; omega
/-- A node whose box's cells alone have turned. -/
theorem NdAt.turn0 (h : NdAt f N w nb bb cv cfv sv d b) {b' : Box C} (hb : BxAt f N w' bb cv b') (hs : Sep (FB bb cv) w w' (FB bb cv)) :
    NdAt f N w' nb bb cv cfv sv d b' ∧ Sep (FN nb bb cv) w w' (FN nb bb cv) := by
  have hnb' : w'.heap[nb]? = some (.cells (nodeC cfv sv bb d) 79 (0, 0)) := by rw [hs.out nb h.lt h.ne]; exact h.blk
  exact ⟨⟨hnb', hb, h.cfg.kp (Kp.ofSep hs h.box.apart), h.own, h.ep, h.slf, h.bir⟩, Sep.tgt (hs.mono (fun x hx => .inr hx)) (fun x hx => .inl hx)⟩

set_option maxRecDepth 100000 in
set_option maxHeartbeats 2000000 in
theorem kept_any (h : NdAt f N w nb bb cv cfv sv d b) (hf : ∀ c, (f c).length ≤ 1048576) :
    Calls Try.prog 49 #[.pointer (some ⟨nb, 0, none⟩)] w (KeptPost f N w nb bb cv cfv sv d b) := by
  have H := Lib.hid h
  have hlt := h.lt
  have k7 := h.m
  have hlen := h.box.len
  have hfst := h.box.fst
  have m1 := Try.methFirst (.pointer (some ⟨bb, 0, none⟩))
  have m2 := Try.methApplied (.pointer (some ⟨bb, 0, none⟩))
  have m3 := Try.methEntry (.pointer (some ⟨bb, 0, none⟩))
  have m4 := Try.methTrim (.pointer (some ⟨bb, 0, none⟩))
  have Hfi := Lib.hid (bfirst_any h.box)
  clear h
  go_enter Try.func49, Try.ntmps49
  go_wp2_with fail
  (with_reducible refine Hfi.out.mono ?_)
  rintro e w1 ⟨rfl, hw1⟩
  have hw2 := hw1.symm
  subst hw2
  clear hw1 Hfi
  go_wp2_with fail
  go_loopw [3, 4] (fun ov iv wr => KpInv f w b ov iv wr) (fun _ iv _ => b.cmds.length + 2 - (intOf iv).toNat)
  case atStart => exact ⟨0, _, rfl, by omega, by simp, ownCs_nil _ _, Grow.refl _⟩
  case round =>
    obtain ⟨j, p, hp, hj, rfl, ho, hg⟩ := hrel
    have hn := H.out.grow hg
    have hltr := hn.lt
    have k7r := hn.m
    have Ha := Lib.hid (applied_any hn.box)
    by_cases hlt2 : b.first + j < b.cmds.length
    · obtain ⟨c, hc⟩ : ∃ c, b.cmds[b.first + j]? = some c := ⟨b.cmds[b.first + j], by simp [hlt2]⟩
      have he := entry_any hn.box hf hc (by omega)
      rw [← hp] at he
      have He := Lib.hid he
      clear he
      have htk : (b.cmds.drop b.first).take (j + 1) = (b.cmds.drop b.first).take j ++ [c] := by
        have : (b.cmds.drop b.first)[j]? = some c := by rw [List.getElem?_drop]; exact hc
        obtain ⟨h1, h2⟩ := List.getElem?_eq_some_iff.1 this
        rw [List.take_succ_eq_append_getElem h1, h2]
      have hcm : comsF (b.first + 1) ((b.cmds.drop b.first).take (j + 1)) = comsF (b.first + 1) ((b.cmds.drop b.first).take j) ++ [⟨p, c, false⟩] := by
        rw [htk, comsF_snoc]
        congr 3
        simp; omega
      have Hcm := Lib.hid hcm
      have Ho := Lib.hid ho
      have Hg := Lib.hid hg
      have hol : (comsF (b.first + 1) ((b.cmds.drop b.first).take j)).length = j := by rw [comsF_len]; simp; omega
      have e1 : decide (p ≤ b.cmds.length) = true := by simp; omega
      have hpb : p ≤ 100001 := by omega
      have Hpl := Lib.hid (show p ≤ b.cmds.length by omega)
      have Hp := Lib.hid hp
      obtain ⟨oa, oc, rfl⟩ := ho.slice
      rw [hol] at *
      clear ho hg hn hcm htk hc hol hp
      go_wp2_with fail
      (with_reducible refine Ha.out.mono ?_)
      rintro e w1 ⟨rfl, hw1⟩
      have hw2 := hw1.symm
      subst hw2
      clear hw1 Ha
      go_wp2_with fail
      (with_reducible refine He.out.mono ?_)
      rintro e w1 ⟨v5, rfl, h5, hg5⟩
      have hgood : GoodC f (fun y => wr.heap.size ≤ y) w1 ⟨⟨p, c, false⟩, v5, .slice none 0 0⟩ := ⟨h5.bw (fun x h1 _ => h1), bw_nil _ _⟩
      obtain ⟨v', w', r1, r2, r3⟩ := Ho.out.push hg5 hgood Hg.out.size (by rw [comsF_len]; simp; omega)
      have Hr := Lib.hid r1
      have Hrel : Hid (KpInv f w b v' (.int .u64 ((p : Int) + 1)) w') := Lib.hid ⟨j + 1, p + 1, by have := Hp.out; omega, by omega, by simp, by rw [Hcm.out]; exact r2, Below.trans Hg.out r3⟩
      have hbc := run_buildC1
      obtain ⟨qa, qc, rfl⟩ := h5.slice
      clear r1 r2 r3 hgood h5 hg5 He Ho Hcm Hg
      go_wp2_with (at_builtin; refine wpList_append rfl rfl rfl rfl Hr.out ?_)
      go_roundw
      case rel => exact Hrel.out
      case measure => have := Hpl.out; simp [intOf]; omega
    · have e1 : decide (p ≤ b.cmds.length) = false := by simp; omega
      have hpb : p ≤ 100001 := by omega
      have hall : (b.cmds.drop b.first).take j = b.cmds.drop b.first := List.take_of_length_le (by simp; omega)
      rw [hall] at ho
      have Ho := Lib.hid ho
      have Hg := Lib.hid hg
      obtain ⟨oa, oc, rfl⟩ := ho.slice
      rw [comsF_len, List.length_drop] at *
      generalize b.cmds.length - b.first = oj at *
      clear ho hg hp hall hlt2 hn
      go_wp2_with fail
      (with_reducible refine Ha.out.mono ?_)
      rintro e w1 ⟨rfl, hw1⟩
      have hw2 := hw1.symm
      subst hw2
      clear hw1 Ha
      go_upto_region 7 with fail
      have hnd := (H.out.grow (Hg.out.trans (Grow.drew wr)))
      have hd0 := hnd.lt
      have hd7 := hnd.m
      refine wp_region_pi (fun W => nb < W.heap.size ∧ W.cell? ⟨nb, 7, none⟩ = some (.iface 48 (.pointer (some ⟨bb, 0, none⟩)))) [(0, false), (1, false), (2, false), (3, false), (4, false), (5, false), (6, false), (7, false), (9, false), (10, false), (8, true), (11, true)] (by kernel_rfl) (by kernel_rfl) (fun c a d v w h => by cases d <;> exact h) ⟨hd0, hd7⟩ ?_
      have Hgd := Lib.hid (Grow.drew wr)
      generalize wr.drew = wd at *
      simp only [arrange, nth]
      repeat ((first | (apply wpPi_quiet; rfl; rintro W ⟨hW, hW0⟩; go_simp; with_reducible rfl) | (apply wpPi_off; rfl)); simp only [putA, List.set])
      refine wpPi_call (by rfl) (by go_simp) (applied_any hnd.box) ?_
      rintro e w1 ⟨rfl, rfl⟩
      refine ⟨_, rfl, ⟨hd0, hd7⟩, ?_⟩
      try first | simp only [putA, List.set] | simp only [putN]
      refine wpPi_call (by rfl) (by go_simp) (trim_any hnd.box (up := b.cmds.length) (by omega)) ?_
      rintro e w2 ⟨rfl, hb2, hs2⟩
      obtain ⟨hn2, hsn2⟩ := hnd.turn0 hb2 hs2
      refine ⟨_, rfl, ⟨hn2.lt, hn2.m⟩, ?_⟩
      try first | simp only [putA, List.set] | simp only [putN]
      refine wpPi_nil ?_
      have hres : Hid (KeptPost f N w nb bb cv cfv sv d b (.returned (.slice oa oj oc)) w2) := Lib.hid ⟨_, rfl, (Ho.out.comR.grow Hgd.out).kp (Kp.ofSep hsn2 (fun x hx hF => by have := H.out.flt hF; omega)), hn2, (Sep.ofGrow (Hg.out.trans Hgd.out)).trans hsn2⟩
      clear hnd hb2 hs2 hn2 hsn2
      go_wp2
      go_ret
      exact hres.out
end
end Go.Proofs.Ytfchjoejdijjeaa

/- A node: Beat. -/
namespace Go.Proofs.Ytfchjoejdijjeaa
open Go.RowKit Go.Gl Go.Wal Go.Ch Go.Shelf
section
variable {C : Type} {f : C → List UInt8} {N : Nat → Prop} {w w' : World} {nb bb : Nat} {cv cfv sv : Value} {d : Nd} {b : Box C}

def BeatPost (f : C → List UInt8) (w : World) (ms : List (Msg C)) (e : Ending) (w' : World) : Prop := ∃ v, e = .returned v ∧ OwnMs f w.heap.size w' v ms ∧ Grow w w'

theorem beat_eq (d : Nd) (b : Box C) : beatM d b = if (d.has && wholeB d b && d.behind.isSome) = true then
    (if (!(d.behind.getD zeroM).whole && !d.told) = true then [⟨d.self, (d.behind.getD zeroM).node, d.cfg.epoch, .state b.first b.cmds⟩] else entriesF d (d.behind.getD zeroM) (b.first + 1) ((b.cmds.drop b.first).take 16)) else [] := by
  unfold beatM
  cases d.behind with
  | none => simp
  | some m => simp

def BtInv (f : C → List UInt8) (w : World) (d : Nd) (m : Mem) (b : Box C) (ov iv : Value) (wr : World) : Prop :=
  ∃ j p : Nat, p = b.first + j + 1 ∧ b.first + j ≤ b.cmds.length ∧ j ≤ 16 ∧ iv = .int .u64 (p : Int) ∧ OwnMs f w.heap.size wr ov (entriesF d m (b.first + 1) ((b.cmds.drop b.first).take j)) ∧ Grow w wr

set_option maxRecDepth 100000 in
set_option maxHeartbeats 4000000 in
/-- Beat's last part: the entries that are kept. -/
theorem beat_any (h : NdAt f N w nb bb cv cfv sv d b) (hf : ∀ c, (f c).length ≤ 1048576) :
    Calls Try.prog 21 #[.pointer (some ⟨nb, 0, none⟩)] w (BeatPost f w (beatM d b)) := by
  have H := Lib.hid h
  have hlt := h.lt
  have hlen := h.box.len
  have hfst := h.box.fst
  have hres := beat_eq d b
  obtain ⟨M, hM⟩ : ∃ M, d.behind.getD zeroM = M := ⟨_, rfl⟩
  obtain ⟨ss, hss⟩ : ∃ s, d.behind.isSome = s := ⟨_, rfl⟩
  obtain ⟨wh, hwh⟩ : ∃ s, wholeB d b = s := ⟨_, rfl⟩
  have Hb := Lib.hid (om_split (nbehind_any h) hM hss)
  rw [hM, hss, hwh] at hres
  have Hwh := Lib.hid hwh
  obtain ⟨mn, mb, mw⟩ := M
  simp only at hres
  obtain ⟨R, hR⟩ : ∃ R, beatM d b = R := ⟨_, rfl⟩
  rw [hR] at hres ⊢
  have Hres := Lib.hid hres
  clear h hM hss hwh hR hres
  go_enter Try.func21, Try.ntmps21
  go_wp2_with fail
  (with_reducible refine Hb.out.mono ?_)
  rintro e w1 ⟨rfl, hg1⟩
  have hr1 := heap_alloc_new w1 (.cells #[.int .i64 (mn : Int), .int .i64 (mb : Int), .bool mw] 71)
  have Hga := Lib.hid (hg1.trans (Grow.alloc w1 (.cells #[.int .i64 (mn : Int), .int .i64 (mb : Int), .bool mw] 71)))
  have hn := H.out.grow Hga.out
  have k5 := hn.pl.c5
  have k6 := hn.pl.c6
  have hl2 := hn.lt
  have hw := nwhole_any hn
  rw [Hwh.out] at hw
  have Hw := Lib.hid hw
  have Hr1 := Lib.hid hr1
  clear hn hw hr1 hg1 Hb
  go_upto_region 2 with fail
  generalize hw2 : w1.alloc (.cells #[.int .i64 (mn : Int), .int .i64 (mb : Int), .bool mw] 71) = w2 at *
  clear hw2
  by_cases hgo : (d.has && wh && ss) = true
  · rw [if_pos hgo] at Hres
    obtain ⟨⟨hh, rfl⟩, rfl⟩ : (d.has = true ∧ wh = true) ∧ ss = true := by simpa using hgo
    rw [hh] at k5
    clear hgo
    go_wp2_with fail
    (with_reducible refine Hw.out.mono ?_)
    rintro e w3 ⟨rfl, hg3⟩
    have Hg3 := Lib.hid (Hga.out.trans hg3)
    have hr3 := hg3.heap Hr1.out
    have q0 : w3.cell? ⟨w1.heap.size, 0, none⟩ = some (.int .i64 (mn : Int)) := by simp [World.cell?, hr3]
    have q1 : w3.cell? ⟨w1.heap.size, 1, none⟩ = some (.int .i64 (mb : Int)) := by simp [World.cell?, hr3]
    have q2 : w3.cell? ⟨w1.heap.size, 2, none⟩ = some (.bool mw) := by simp [World.cell?, hr3]
    have lq : w1.heap.size < w3.heap.size := lt_of_getElem? hr3
    have hn3 := H.out.grow Hg3.out
    have k6 := hn3.pl.c6
    have k7 := hn3.m
    have hl3 := hn3.lt
    have Hr3 := Lib.hid hr3
    clear hg3 hr3 Hw Hga Hr1 hn3
    by_cases hst : (!mw && !d.told) = true
    · rw [if_pos hst] at Hres
      obtain ⟨rfl, htd⟩ : mw = false ∧ d.told = false := by simpa using hst
      rw [htd] at k6
      clear hst htd
      go_wp2_with fail
      refine wp_region_row (fun W => nb < W.heap.size ∧ W.cell? ⟨nb, 7, none⟩ = some (.iface 48 (.pointer (some ⟨bb, 0, none⟩))) ∧ W.cell? ⟨w1.heap.size, 0, none⟩ = some (.int .i64 (mn : Int)) ∧ W.cell? ⟨w1.heap.size, 1, none⟩ = some (.int .i64 (mb : Int)) ∧ W.cell? ⟨w1.heap.size, 2, none⟩ = some (.bool false) ∧ w1.heap.size < W.heap.size) [6, 0] (by kernel_rfl) (fun c a d v w h => by cases d <;> exact h) ⟨hl3, k7, q0, q1, q2, lq⟩ ?_
      simp only [inRow]
      have hgd := Grow.drew w3
      have hn4 := (H.out.grow Hg3.out).grow hgd
      have m1 := Try.methSave (.pointer (some ⟨bb, 0, none⟩))
      repeat ((first | (apply wpPi_quiet; rfl; rintro W ⟨hW, hW0, hW1, hW2, hW3, hW4⟩; go_simp; with_reducible rfl) | (apply wpPi_off; rfl)); simp only [putA, List.set])
      refine wpPi_call (by rfl) (by go_simp) (save_any hn4.box hf) ?_
      rintro e w4 ⟨v4, rfl, ho4, hg4⟩
      have hn5 := hn4.grow hg4
      have hgg := hgd.trans hg4
      have hc := (bcell hgg).1
      refine ⟨_, rfl, ⟨hn5.lt, hn5.m, by rw [hc _ _ lq]; exact q0, by rw [hc _ _ lq]; exact q1, by rw [hc _ _ lq]; exact q2, Nat.lt_of_lt_of_le lq hgg.size⟩, ?_⟩
      try first | simp only [putA, List.set] | simp only [putN]
      refine wpPi_call (by rfl) (by go_simp) (say_k hn5 ⟨mn, mb, false⟩ (k := 4) (i := 0) rfl rfl (by decide) (by decide) (ownB_bv ho4) (by have := save_len hf b.first hlen; omega)) ?_
      rintro e w5 hs
      obtain ⟨v5, rfl, ho5, hg5⟩ := hs.own (f := f) (x := ⟨d.self, mn, d.cfg.epoch, .state b.first b.cmds⟩) rfl rfl rfl
      have hn6 := hn5.grow hg5
      have hgg2 := hgg.trans hg5
      have hc2 := (bcell hgg2).1
      refine ⟨_, rfl, ⟨hn6.lt, hn6.m, by rw [hc2 _ _ lq]; exact q0, by rw [hc2 _ _ lq]; exact q1, by rw [hc2 _ _ lq]; exact q2, Nat.lt_of_lt_of_le lq hgg2.size⟩, ?_⟩
      have Hp : Hid (BeatPost f w R (.returned v5) w5) := Lib.hid ⟨v5, rfl, by rw [Hres.out]; exact ho5.low (by have := (Hg3.out.trans hgg).size; omega), Hg3.out.trans hgg2⟩
      obtain ⟨va, vc, rfl⟩ := ho5.slice
      clear hs ho5 hg5 hn6 hgg2 hc2 hn5 hgg hc hg4 ho4 hn4 hgd
      try first | simp only [putA, List.set] | simp only [putN]
      repeat ((first | (apply wpPi_quiet; rfl; rintro W ⟨hW, hW0, hW1, hW2, hW3, hW4⟩; go_simp; with_reducible rfl) | (apply wpPi_off; rfl)); simp only [putA, List.set])
      refine wpPi_nil ?_
      go_wp2
      go_ret
      exact Hp.out
    · rw [if_neg hst] at Hres
      have Hfi := Lib.hid (bfirst_any (H.out.grow Hg3.out).box)
      have m1 := Try.methFirst (.pointer (some ⟨bb, 0, none⟩))
      have m2 := Try.methApplied (.pointer (some ⟨bb, 0, none⟩))
      have m3 := Try.methEntry (.pointer (some ⟨bb, 0, none⟩))
      have Hst : Hid (BtInv f w3 d ⟨mn, mb, mw⟩ b (.slice none 0 0) (.int .u64 ((b.first + 1 : Nat) : Int)) w3) := Lib.hid ⟨0, _, rfl, by omega, by decide, rfl, ownMs_nil _ _, Grow.refl _⟩
      go_upto_region 4 with fail
      go_cut [39] from 29 to 39 (fun v wx => v = .bool false ∧ wx = w3)
      case first =>
        cases htd : d.told <;> rw [htd] at k6 hst <;> cases mw
        all_goals first | (exfalso; exact hst rfl) | skip
        all_goals
          go_wp2_with fail
          go_meet
          exact ⟨rfl, rfl⟩
      case rest =>
        obtain ⟨rfl, hwc⟩ := hcut
        have hwc' := hwc.symm
        subst hwc'
        clear hwc hst k6
        go_wp2_with fail
        (with_reducible refine Hfi.out.mono ?_)
        rintro e w4 ⟨rfl, hw1⟩
        have hw2 := hw1.symm
        subst hw2
        clear hw1 Hfi
        go_wp2_with fail
        go_loopw [5, 6] (fun ov iv wr => BtInv f w3 d ⟨mn, mb, mw⟩ b ov iv wr) (fun _ iv _ => b.cmds.length + 2 - (intOf iv).toNat)
        case atStart => exact Hst.out
        case round =>
          obtain ⟨j, p, hp, hj, hj16, rfl, ho, hg⟩ := hrel
          have hn := (H.out.grow Hg3.out).grow hg
          have hltr := hn.lt
          have k7r := hn.m
          have Ha := Lib.hid (applied_any hn.box)
          have hr3 := hg.heap Hr3.out
          have s0 : wr.cell? ⟨w1.heap.size, 0, none⟩ = some (.int .i64 (mn : Int)) := by simp [World.cell?, hr3]
          have s1 : wr.cell? ⟨w1.heap.size, 1, none⟩ = some (.int .i64 (mb : Int)) := by simp [World.cell?, hr3]
          have s2 : wr.cell? ⟨w1.heap.size, 2, none⟩ = some (.bool mw) := by simp [World.cell?, hr3]
          have lqr : w1.heap.size < wr.heap.size := lt_of_getElem? hr3
          have hol : (entriesF d ⟨mn, mb, mw⟩ (b.first + 1) ((b.cmds.drop b.first).take j)).length = j := by rw [entriesF_len]; simp; omega
          obtain ⟨oa, oc, rfl⟩ := ho.slice
          rw [hol] at ho ⊢
          by_cases hlt2 : b.first + j < b.cmds.length
          · by_cases h16 : j < 16
            · obtain ⟨c, hc⟩ : ∃ c, b.cmds[b.first + j]? = some c := ⟨b.cmds[b.first + j], by simp [hlt2]⟩
              have he := entry_any hn.box hf hc (by omega)
              rw [← hp] at he
              have He := Lib.hid he
              have htk : (b.cmds.drop b.first).take (j + 1) = (b.cmds.drop b.first).take j ++ [c] := by
                have : (b.cmds.drop b.first)[j]? = some c := by rw [List.getElem?_drop]; exact hc
                obtain ⟨h1, h2⟩ := List.getElem?_eq_some_iff.1 this
                rw [List.take_succ_eq_append_getElem h1, h2]
              have hcm : entriesF d ⟨mn, mb, mw⟩ (b.first + 1) ((b.cmds.drop b.first).take (j + 1)) = entriesF d ⟨mn, mb, mw⟩ (b.first + 1) ((b.cmds.drop b.first).take j) ++ [⟨d.self, mn, d.cfg.epoch, .entry p c⟩] := by
                rw [htk, entriesF_snoc]
                have : b.first + 1 + ((b.cmds.drop b.first).take j).length = p := by simp; omega
                rw [this]
              have Hcm := Lib.hid hcm
              have Ho := Lib.hid ho
              have Hg := Lib.hid hg
              have Hn := Lib.hid hn
              have Hol := Lib.hid hol
              have e1 : decide (p ≤ b.cmds.length) = true := by simp; omega
              have hpb : p ≤ 100001 := by omega
              have Hpl := Lib.hid (show p ≤ b.cmds.length by omega)
              have Hp := Lib.hid hp
              have e2 : decide ((j : Int) < 16) = true := by simp; omega
              have e3 : decide (j < 16) = true := by simp; omega
              clear ho hg hn hcm htk hc hol hp he hr3 hlt2
              go_wp2_with fail
              (with_reducible refine Ha.out.mono ?_)
              rintro e w5 ⟨rfl, hw1⟩
              have hw2 := hw1.symm
              subst hw2
              clear hw1 Ha
              go_wp2_with fail
              (with_reducible refine He.out.mono ?_)
              rintro e w5 ⟨v5, rfl, h5, hg5⟩
              have hc5 := (bcell hg5).1
              have hn5 := Hn.out.grow hg5
              have t0 : w5.cell? ⟨w1.heap.size, 0, none⟩ = some (.int .i64 (mn : Int)) := by rw [hc5 _ _ lqr]; exact s0
              have t1 : w5.cell? ⟨w1.heap.size, 1, none⟩ = some (.int .i64 (mb : Int)) := by rw [hc5 _ _ lqr]; exact s1
              have t2 : w5.cell? ⟨w1.heap.size, 2, none⟩ = some (.bool mw) := by rw [hc5 _ _ lqr]; exact s2
              have lq5 : w1.heap.size < w5.heap.size := Nat.lt_of_lt_of_le lqr hg5.size
              have hl5 := hn5.lt
              have Hs := Lib.hid (say_k hn5 ⟨mn, mb, mw⟩ (k := 1) (i := p) (kI := 1) (iI := (p : Int)) rfl rfl (by decide) (by omega) (ownB_bv h5) (by have := hf c; omega))
              obtain ⟨qa, qc, rfl⟩ := h5.slice
              have Hg5 := Lib.hid hg5
              clear hn5 h5 hg5 He s0 s1 s2 hc5
              go_wp2_with fail
              (with_reducible refine Hs.out.mono ?_)
              rintro e w6 ⟨g6, mv, rfl, hg6, hc6, hb6, hgr6⟩
              obtain ⟨v', w', r1, r2, r3, r4⟩ := Ho.out.push (x := ⟨d.self, mn, d.cfg.epoch, .entry p c⟩) (Hg5.out.trans hgr6) hc6 (hb6.mono (fun x hx _ => Nat.le_trans Hg5.out.size hx)) Hg.out.size (by rw [Hol.out]; omega)
              have Hr := Lib.hid r1
              have Hrel : Hid (BtInv f w3 d ⟨mn, mb, mw⟩ b v' (.int .u64 ((p : Int) + 1)) w') := Lib.hid ⟨j + 1, p + 1, by have := Hp.out; omega, by have := Hp.out; have := Hpl.out; omega, h16, by simp, by rw [Hcm.out]; exact r2, Below.trans Hg.out r3⟩
              clear r1 r2 r3 r4 hb6 hgr6 hg6 Hs Ho Hcm Hg Hg5
              go_wp2_with (at_builtin; refine wpList_append rfl rfl rfl rfl Hr.out ?_)
              go_roundw
              case rel => exact Hrel.out
              case measure => have := Hpl.out; simp [intOf]; omega
            · obtain rfl : j = 16 := by omega
              have e1 : decide (p ≤ b.cmds.length) = true := by simp; omega
              have Hq : Hid (BeatPost f w R (.returned (.slice oa 16 oc)) wr) := Lib.hid ⟨_, rfl, by rw [Hres.out]; exact ho.low Hg3.out.size, Hg3.out.trans hg⟩
              clear ho hg hn hol hp hr3 hlt2
              go_wp2_with fail
              (with_reducible refine Ha.out.mono ?_)
              rintro e w5 ⟨rfl, hw1⟩
              have hw2 := hw1.symm
              subst hw2
              clear hw1 Ha
              go_wp2
              go_ret
              exact Hq.out
          · have e1 : decide (p ≤ b.cmds.length) = false := by simp; omega
            have hall : (b.cmds.drop b.first).take j = (b.cmds.drop b.first).take 16 := by rw [List.take_of_length_le (by simp; omega), List.take_of_length_le (by simp; omega)]
            have Hq : Hid (BeatPost f w R (.returned (.slice oa j oc)) wr) := Lib.hid ⟨_, rfl, by rw [Hres.out, ← hall]; exact ho.low Hg3.out.size, Hg3.out.trans hg⟩
            clear ho hg hn hol hp hr3 hlt2 hall
            go_wp2_with fail
            (with_reducible refine Ha.out.mono ?_)
            rintro e w5 ⟨rfl, hw1⟩
            have hw2 := hw1.symm
            subst hw2
            clear hw1 Ha
            go_wp2
            go_ret
            exact Hq.out
  · rw [if_neg hgo] at Hres
    have Hp : ∀ W, Grow w W → BeatPost f w R (.returned (.slice none 0 0)) W := fun W hW => ⟨_, rfl, by rw [Hres.out]; exact ownMs_nil _ _, hW⟩
    cases hh : d.has with
    | false =>
      rw [hh] at k5
      clear hgo hh
      go_wp2_with fail
      go_ret
      exact Hp _ Hga.out
    | true =>
      rw [hh] at k5 hgo
      have hx : wh = true → ss = false := by intro e; subst e; simpa using hgo
      clear hgo hh
      go_wp2_with fail
      (with_reducible refine Hw.out.mono ?_)
      rintro e w3 ⟨rfl, hg3⟩
      have Hg3 := Lib.hid (Hga.out.trans hg3)
      clear hg3 Hw
      cases wh with
      | false =>
        clear hx
        go_wp2_with fail
        go_ret
        exact Hp _ Hg3.out
      | true =>
        obtain rfl := hx rfl
        clear hx
        go_wp2_with fail
        go_ret
        exact Hp _ Hg3.out
end
end Go.Proofs.Ytfchjoejdijjeaa
