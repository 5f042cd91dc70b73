/- Merged out of D8, D9, DA, KR: helpers. -/
import Derived.Test.YtejpcoghkgjanaaGreatDoorVD
/- disk.Delete of one file. -/
namespace Go.Proofs.YtejpcoghkgjanaaGreatDoor
open Go.RowKit Go.Gl Go.Wal

def delV (n : ByteArray) (V : Vw) : Vw := V.filter (fun e => decide (n ≠ e.1))
def delF (n : ByteArray) (fs : List Fe) : List Fe := fs.filter (fun f => decide (n ≠ f.name))

theorem vw_del (n : ByteArray) (fs : List Fe) : vw (delF n fs) = delV n (vw fs) := by
  unfold vw delF delV
  rw [List.filter_map]
  rfl
theorem ent_del (n : ByteArray) (fs : List Fe) : (delF n fs).map Fe.ent = (fs.map Fe.ent).filter (fun e => decide (n ≠ e.key)) := by
  unfold delF
  rw [List.filter_map]
  rfl

section
variable {B : Nat} {w : World} {p r : Nat} {size used born : Int} {fs : List Fe}
theorem DiskAt.del (h : DiskAt B w p r size used born fs) (n : ByteArray) {c : Nat} (hm : MapAt w r Value.string (fs.map Fe.ent) c) (hc : ∀ f ∈ fs, f.born < c) :
    DiskAt B (setO w r (.map (((fs.map Fe.ent).filter (fun e => decide (n ≠ e.key))).map (Ent.raw Value.string)).toArray c)) p r size used born (delF n fs) ∧
    Sep (Foot p r fs) w (setO w r (.map (((fs.map Fe.ent).filter (fun e => decide (n ≠ e.key))).map (Ent.raw Value.string)).toArray c)) (Foot p r (delF n fs)) := by
  have hrl := lt_of_getElem? hm
  rw [← ent_del]
  generalize hw2 : setO w r (.map (((delF n fs).map Fe.ent).map (Ent.raw Value.string)).toArray c) = w2
  have ho : ∀ b, b ≠ r → w2.heap[b]? = w.heap[b]? := fun b hbr => by rw [← hw2, setO_other hbr]
  have hr2 : MapAt w2 r Value.string ((delF n fs).map Fe.ent) c := by
    rw [← hw2]
    unfold MapAt
    rw [setO_same hrl]
  have hsz : w2.heap.size = w.heap.size := by rw [← hw2]; simp [setO]
  have hsub : ∀ f ∈ delF n fs, f ∈ fs := fun f hf => (List.mem_filter.1 hf).1
  refine ⟨⟨(ho p h.p_ne_r).trans h.self, ⟨c, hr2, fun f hf => hc f (hsub f hf)⟩, h.names.sublist (List.filter_sublist.map _), h.borns.sublist (List.filter_sublist.map _), h.fbs.sublist (List.filter_sublist.map _), fun f hf g hg => h.rows f (hsub f hf) g (hsub g hg), fun f hf => ?_, h.base.1, h.base.2.1, by rw [hsz]; exact h.base.2.2⟩, ⟨by rw [← hw2]; rfl, by rw [← hw2]; rfl, by rw [← hw2]; rfl, by omega, fun b _ hn => ho b (fun e => hn (.inr (.inl e))), ?_⟩⟩
  · have hfa := h.files f (hsub f hf)
    exact ⟨(ho _ (h.fb_ne (hsub f hf)).2).trans hfa.cell, hfa.row.keep (fun b hb => ho b (h.row_ne (hsub f hf) hb).2.1), hfa.base, hfa.sync⟩
  · rintro b (rfl | rfl | ⟨f, hf, hb⟩)
    · exact .inl (.inl rfl)
    · exact .inl (.inr (.inl rfl))
    · exact .inl (.inr (.inr ⟨f, hsub f hf, hb⟩))
end

set_option maxRecDepth 100000 in
set_option maxHeartbeats 4000000 in
theorem delete1_none {B : Nat} {w : World} {p r : Nat} {size used born : Int} {fs : List Fe} (h : DiskAt B w p r size used born fs) {n : ByteArray} (hfo : fileOf n fs = none) {qb : Nat} (hq : w.heap[qb]? = some (.cells #[.string n] 9 (0, 0))) :
    Calls Tryz.prog 21 #[.pointer (some ⟨p, 0, none⟩), .slice (some ⟨qb, 0, none⟩) 1 1] w fun e w' => e = .returned (.int .i64 4) ∧ Grow w w' := by
  have hall := all1 h n hq
  rw [hfo] at hall
  have Hall := Lib.hid hall
  clear hall h hfo hq
  go_enter Tryz.func21, Tryz.ntmps21
  go_wp2_with fail
  (with_reducible refine Hall.out.mono ?_)
  rintro e w1 ⟨rfl, hg1⟩
  have e0 : (none : Option Fe).isSome = false := rfl
  go_wp2
  go_ret
  exact ⟨rfl, hg1⟩

set_option maxRecDepth 100000 in
set_option maxHeartbeats 4000000 in
theorem delete1 {B : Nat} {w : World} {p r : Nat} {size used born : Int} {fs : List Fe} (h : DiskAt B w p r size used born fs) {n : ByteArray} {f : Fe} (hfo : fileOf n fs = some f) {qb : Nat} (hq : w.heap[qb]? = some (.cells #[.string n] 9 (0, 0))) (hfl : f.b.length ≤ 1073741824) (hu : 0 ≤ used) (hu2 : used ≤ 1073741824) :
    Calls Tryz.prog 21 #[.pointer (some ⟨p, 0, none⟩), .slice (some ⟨qb, 0, none⟩) 1 1] w fun e w' => e = .returned (.int .i64 0) ∧ ∃ fs', DiskAt B w' p r size (used - f.b.length) born fs' ∧ Sep (Foot p r fs) w w' (Foot p r fs') ∧ vw fs' = delV n (vw fs) := by
  have hall := all1 h n hq
  rw [hfo] at hall
  have Hall := Lib.hid hall
  have H := Lib.hid h
  have Hfo := Lib.hid hfo
  have Hq := Lib.hid hq
  clear hall h hfo hq
  go_enter Tryz.func21, Tryz.ntmps21
  go_wp2_with fail
  (with_reducible refine Hall.out.mono ?_)
  rintro e w1 ⟨rfl, hg1⟩
  have h1 := H.out.grow hg1
  have hq1 := hg1.heap Hq.out
  have q0 : w1.cell? ⟨qb, 0, none⟩ = some (.string n) := by simp [World.cell?, hq1]
  have lq := lt_of_getElem? hq1
  have e0 : (Option.some f).isSome = true := rfl
  obtain ⟨hm, hnm⟩ := fileOf_some Hfo.out
  have hlk : (Instr.lookup 54 (.map (some r)) (.string n) false).run Tryz.prog w1 = .ok (.pointer (some ⟨f.fb, 0, none⟩)) w1 := by
    have := h1.lookup n
    simpa only [fileVal, Hfo.out] using this
  obtain ⟨c0, c1, c2, c3⟩ := h1.cells
  have lp := lt_of_getElem? h1.self
  have hfa := h1.files f hm
  obtain ⟨ba, bc, hbv⟩ := hfa.row.slice
  have z0 : w1.cell? ⟨f.fb, 0, none⟩ = some (.slice ba f.b.length bc) := by simp [World.cell?, hfa.cell, hbv, bcells_len]
  have lf := lt_of_getElem? hfa.cell
  have ff : ∀ i, w1.frozen? ⟨p, i, none⟩ = false := fun i => by simp [World.frozen?, h1.self]
  have hcl := Grow.cells (w := w1)
  have hgd : Grow w1 w1.drew := Grow.drew w1
  have hw1 : IntKind.i64.wrap (used - (f.b.length : Int)) = used - (f.b.length : Int) := IntWalk.i64_in _ (by omega)
  obtain ⟨hd2', hs2'⟩ := (h1.grow hgd).setUsed (used - f.b.length)
  obtain ⟨w2, hw2⟩ : ∃ x, x = (w1.setCell ⟨p, 1, none⟩ (.int .i64 (used - f.b.length))).drew := ⟨_, rfl⟩
  have hd2 : DiskAt B w2 p r size (used - f.b.length) born fs := by rw [hw2]; exact hd2'
  have hs2 : Sep (Foot p r fs) w1.drew w2 (Foot p r fs) := by rw [hw2]; exact hs2'
  clear hd2' hs2'
  obtain ⟨ck, hmap, hck⟩ := hd2.map
  obtain ⟨hd3, hs3⟩ := hd2.del n hmap hck
  have hdel := run_delete (ty := 0) (kt' := 9) keyOkS Tryz.underlying54 hmap (by have := hd2.names; rw [List.map_map]; exact this) n
  obtain ⟨e0', e1', e2', e3'⟩ := hd2.cells
  have lp2 := lt_of_getElem? hd2.self
  have Hpost : Hid (∃ fs', DiskAt B (setO w2 r (.map (((fs.map Fe.ent).filter (fun e => decide (n ≠ e.key))).map (Ent.raw Value.string)).toArray ck)) p r size (used - f.b.length) born fs' ∧ Sep (Foot p r fs) w (setO w2 r (.map (((fs.map Fe.ent).filter (fun e => decide (n ≠ e.key))).map (Ent.raw Value.string)).toArray ck)) (Foot p r fs') ∧ vw fs' = delV n (vw fs)) := Lib.hid ⟨_, hd3, ((Sep.ofGrow (hg1.trans hgd)).trans hs2).trans hs3, vw_del n fs⟩
  generalize hw3 : setO w2 r (.map (((fs.map Fe.ent).filter (fun e => decide (n ≠ e.key))).map (Ent.raw Value.string)).toArray ck) = w3 at *
  have Hw2 := Lib.hid hw2
  clear hw2 hw3 hd2 hs2 hd3 hs3 hmap hck hgd hfa hbv h1 hm hnm hq1 c0 c2
  go_wp2_with fail
  refine wp_loop_rounds 2 ?_
  rw [rounds_succ]
  go_upto_region 8 with fail
  refine wp_region_last (fun W => Below w1.heap.size w1 W) [(0, false), (1, false), (2, false), (3, false), (4, false), (5, false), (6, false), (7, false), (8, false), (9, false), (10, false), (11, false)] 12 (by kernel_rfl) (by kernel_rfl) (fun c a d v w h => by cases d <;> exact h) (Grow.drew _) ?_
  simp only [arrange, nth]
  repeat (first | (refine wpPi_quiet (v := ?_) (by rfl) (fun W hW => ?_) ?_; rotate_left; (obtain hW := hW; go_simp; with_reducible rfl); simp only [Act.put, List.setIfInBounds_toArray, List.set_cons_zero, List.set_cons_succ]) | (refine wpPi_off (by rfl) ?_; simp only [Act.put, List.setIfInBounds_toArray, List.set_cons_zero, List.set_cons_succ]))
  refine wpPi_nil ?_
  refine lastQ_act (by rfl) (fun K hK => ?_)
  go_simp
  refine hK _ ((w1.setCell ⟨p, 1, none⟩ (.int .i64 (used - f.b.length))).drew) ?_
  clear hK K hcl
  try simp only [Act.put, List.setIfInBounds_toArray, List.set_cons_zero, List.set_cons_succ]
  rw [← Hw2.out]
  go_wp2_with fail
  rw [rounds_succ]
  go_wp2
  go_ret
  exact ⟨rfl, Hpost.out⟩
end Go.Proofs.YtejpcoghkgjanaaGreatDoor

/- disk.Rename onto a file that is there. -/
namespace Go.Proofs.YtejpcoghkgjanaaGreatDoor
open Go.RowKit Go.Gl Go.Wal

def renF (m n : ByteArray) (f : Fe) (fs : List Fe) : List Fe := (delF m fs).map fun g => if g.name = n then { g with fb := f.fb, bv := f.bv, b := f.b, synced := f.synced } else g
def renV (m n : ByteArray) (b : List UInt8) (s : Nat) (V : Vw) : Vw := (delV m V).map fun e => if e.1 = n then (e.1, b, s) else e

theorem vw_ren (m n : ByteArray) (f : Fe) (fs : List Fe) : vw (renF m n f fs) = renV m n f.b f.synced (vw fs) := by
  unfold renV
  rw [← vw_del]
  unfold renF vw
  rw [List.map_map, List.map_map]
  refine List.map_congr_left fun g _ => ?_
  simp only [Function.comp]
  by_cases h : g.name = n
  · simp [h]
  · simp [h]

theorem ent_ren (m n : ByteArray) (f : Fe) (fs : List Fe) (_hmn : m ≠ n) : (renF m n f fs).map Fe.ent = ((putV n (.pointer (some ⟨f.fb, 0, none⟩)) (fs.map Fe.ent)).filter (fun e => decide (m ≠ e.key))) := by
  unfold renF delF putV
  rw [List.map_map, List.map_map, List.filter_map]
  have : ((fun e : Ent ByteArray => decide (m ≠ e.key)) ∘ (fun e : Ent ByteArray => if n = e.key then { e with val := .pointer (some ⟨f.fb, 0, none⟩) } else e) ∘ Fe.ent) = (fun g : Fe => decide (m ≠ g.name)) := by
    have hk : ∀ e : Ent ByteArray, (if n = e.key then { e with val := .pointer (some ⟨f.fb, 0, none⟩) } else e).key = e.key := fun e => by split <;> rfl
    funext g
    simp only [Function.comp, hk]
    rfl
  rw [this]
  refine List.map_congr_left fun g _ => ?_
  simp only [Function.comp]
  by_cases h : g.name = n
  · have h' : n = g.ent.key := h.symm
    rw [if_pos h, if_pos h']; rfl
  · have h' : ¬ n = g.ent.key := Ne.symm h
    rw [if_neg h, if_neg h']

theorem renF_mem {m n : ByteArray} {f : Fe} {fs : List Fe} {g : Fe} (h : g ∈ renF m n f fs) : ∃ g0 ∈ fs, g0.name ≠ m ∧ g.name = g0.name ∧ g.born = g0.born ∧ ((g0.name = n ∧ g.fb = f.fb ∧ g.bv = f.bv ∧ g.b = f.b ∧ g.synced = f.synced) ∨ (g0.name ≠ n ∧ g = g0)) := by
  obtain ⟨g0, h0, rfl⟩ := List.mem_map.1 h
  obtain ⟨h1, h2⟩ := List.mem_filter.1 h0
  refine ⟨g0, h1, fun e => by simp [e] at h2, ?_⟩
  by_cases hn : g0.name = n
  · rw [if_pos hn]; exact ⟨rfl, rfl, .inl ⟨hn, rfl, rfl, rfl, rfl⟩⟩
  · rw [if_neg hn]; exact ⟨rfl, rfl, .inr ⟨hn, rfl⟩⟩

section
variable {B : Nat} {w : World} {p r : Nat} {size used born : Int} {fs : List Fe}
theorem DiskAt.ren (h : DiskAt B w p r size used born fs) {m n : ByteArray} {f : Fe} (hf : f ∈ fs) (hfm : f.name = m) (_hmn : m ≠ n) {c : Nat} (hm : MapAt w r Value.string (fs.map Fe.ent) c) (hc : ∀ f ∈ fs, f.born < c) :
    DiskAt B (setO w r (.map (((renF m n f fs).map Fe.ent).map (Ent.raw Value.string)).toArray c)) p r size used born (renF m n f fs) ∧
    Sep (Foot p r fs) w (setO w r (.map (((renF m n f fs).map Fe.ent).map (Ent.raw Value.string)).toArray c)) (Foot p r (renF m n f fs)) := by
  have hrl := lt_of_getElem? hm
  generalize hw2 : setO w r (.map (((renF m n f fs).map Fe.ent).map (Ent.raw Value.string)).toArray c) = w2
  have ho : ∀ b, b ≠ r → w2.heap[b]? = w.heap[b]? := fun b hbr => by rw [← hw2, setO_other hbr]
  have hr2 : MapAt w2 r Value.string ((renF m n f fs).map Fe.ent) c := by
    rw [← hw2]
    unfold MapAt
    rw [setO_same hrl]
  have hsz : w2.heap.size = w.heap.size := by rw [← hw2]; simp [setO]
  have hnames : (renF m n f fs).map Fe.name = (delF m fs).map Fe.name := by
    unfold renF
    rw [List.map_map]
    refine List.map_congr_left fun g _ => ?_
    simp only [Function.comp]
    split <;> rfl
  have hborns : (renF m n f fs).map Fe.born = (delF m fs).map Fe.born := by
    unfold renF
    rw [List.map_map]
    refine List.map_congr_left fun g _ => ?_
    simp only [Function.comp]
    split <;> rfl
  have hnd : ((renF m n f fs).map Fe.name).Nodup := by rw [hnames]; exact h.names.sublist (List.filter_sublist.map _)
  -- each file of the new list lies where a file of the old one lay
  have hpre : ∀ g ∈ renF m n f fs, ∃ g0 ∈ fs, g.fb = g0.fb ∧ g.bv = g0.bv ∧ g.b = g0.b ∧ g.synced = g0.synced ∧ (g.name = n ∧ g0 = f ∨ g.name ≠ n ∧ g0 = g) := by
    intro g hg
    obtain ⟨g0, h0, hm0, hn0, _, hc0⟩ := renF_mem hg
    rcases hc0 with ⟨e0, e1, e2, e3, e4⟩ | ⟨e0, rfl⟩
    · exact ⟨f, hf, e1, e2, e3, e4, .inl ⟨by rw [hn0, e0], rfl⟩⟩
    · exact ⟨g, h0, rfl, rfl, rfl, rfl, .inr ⟨e0, rfl⟩⟩
  have hfn : ∀ g ∈ renF m n f fs, g.name ≠ n → g.name ≠ m ∧ g ∈ fs := by
    intro g hg hgn
    obtain ⟨g0, h0, hm0, hn0, _, hc0⟩ := renF_mem hg
    rcases hc0 with ⟨e0, _⟩ | ⟨e0, rfl⟩
    · exact absurd (hn0.trans e0) hgn
    · exact ⟨hm0, h0⟩
  refine ⟨⟨(ho p h.p_ne_r).trans h.self, ⟨c, hr2, fun g hg => ?_⟩, hnd, by rw [hborns]; exact h.borns.sublist (List.filter_sublist.map _), ?_, ?_, fun g hg => ?_, h.base.1, h.base.2.1, by rw [hsz]; exact h.base.2.2⟩, ⟨by rw [← hw2]; rfl, by rw [← hw2]; rfl, by rw [← hw2]; rfl, by omega, fun b _ hn => ho b (fun e => hn (.inr (.inl e))), ?_⟩⟩
  · obtain ⟨g0, h0, _, _, hb, _⟩ := renF_mem hg
    rw [hb]; exact hc g0 h0
  · refine List.pairwise_map.2 ?_
    refine (List.pairwise_map.1 hnd).imp_of_mem fun {a b} ha hb hab => ?_
    intro e
    obtain ⟨a0, ha0, ea, _, _, _, ca⟩ := hpre a ha
    obtain ⟨b0, hb0, eb, _, _, _, cb⟩ := hpre b hb
    have hee : a0 = b0 := fb_inj h.fbs ha0 hb0 (by rw [← ea, ← eb, e])
    rcases ca with ⟨an, xa⟩ | ⟨an, xa⟩ <;> rcases cb with ⟨bn, xb⟩ | ⟨bn, xb⟩
    · exact hab (an.trans bn.symm)
    · exact (hfn b hb bn).1 (by rw [← xb, ← hee, xa, hfm])
    · exact (hfn a ha an).1 (by rw [← xa, hee, xb, hfm])
    · exact hab (by rw [← xa, ← xb, hee])
  · intro a ha b hb x hx1 hx2
    obtain ⟨a0, ha0, _, ea, _, _, ca⟩ := hpre a ha
    obtain ⟨b0, hb0, _, eb, _, _, cb⟩ := hpre b hb
    have hee := h.rows a0 ha0 b0 hb0 x (by rw [← ea]; exact hx1) (by rw [← eb]; exact hx2)
    rcases ca with ⟨an, xa⟩ | ⟨an, xa⟩ <;> rcases cb with ⟨bn, xb⟩ | ⟨bn, xb⟩
    · exact an.trans bn.symm
    · exact absurd (by rw [← xb, ← hee, xa, hfm]) (hfn b hb bn).1
    · exact absurd (by rw [← xa, hee, xb, hfm]) (hfn a ha an).1
    · rw [← xa, ← xb]; exact hee
  · obtain ⟨g0, h0, e1, e2, e3, e4, _⟩ := hpre g hg
    have hfa := h.files g0 h0
    exact ⟨by rw [e1, e2, e4]; exact (ho _ (h.fb_ne h0).2).trans hfa.cell, by rw [e2, e3]; exact hfa.row.keep (fun b hb => ho b (h.row_ne h0 hb).2.1), by rw [e1]; exact hfa.base, by rw [e3, e4]; exact hfa.sync⟩
  · rintro b (rfl | rfl | ⟨g, hg, hb⟩)
    · exact .inl (.inl rfl)
    · exact .inl (.inr (.inl rfl))
    · obtain ⟨g0, h0, e1, e2, _, _, _⟩ := hpre g hg
      rw [e1, e2] at hb
      exact .inl (.inr (.inr ⟨g0, h0, hb⟩))
end
end Go.Proofs.YtejpcoghkgjanaaGreatDoor

/- disk.Rename onto a file that is there: the walk. -/
namespace Go.Proofs.YtejpcoghkgjanaaGreatDoor
open Go.RowKit Go.Gl Go.Wal

set_option maxRecDepth 100000 in
set_option maxHeartbeats 4000000 in
theorem rename_old {B : Nat} {w : World} {p r : Nat} {size used born : Int} {fs : List Fe} (h : DiskAt B w p r size used born fs) {m n : ByteArray} {f g : Fe} (hfo : fileOf m fs = some f) (hgo : fileOf n fs = some g) (hmn : m ≠ n) (hn : NameOk n) (hgl : g.b.length ≤ 1073741824) (hu : 0 ≤ used) (hu2 : used ≤ 1073741824) :
    Calls Tryz.prog 62 #[.pointer (some ⟨p, 0, none⟩), .string m, .string n] w fun e w' => e = .returned (.int .i64 0) ∧ ∃ fs', DiskAt B w' p r size (used - g.b.length) born fs' ∧ Sep (Foot p r fs) w w' (Foot p r fs') ∧ vw fs' = renV m n f.b f.synced (vw fs) := by
  have H := Lib.hid h
  obtain ⟨hm, hfm⟩ := fileOf_some hfo
  obtain ⟨hgm, hgn⟩ := fileOf_some hgo
  have hlk1 : (Instr.lookup 54 (.map (some r)) (.string m) false).run Tryz.prog w = .ok (.pointer (some ⟨f.fb, 0, none⟩)) w := by
    have := h.lookup m
    simpa only [fileVal, hfo] using this
  have hlk2 : (Instr.lookup 54 (.map (some r)) (.string n) false).run Tryz.prog w = .ok (.pointer (some ⟨g.fb, 0, none⟩)) w := by
    have := h.lookup n
    simpa only [fileVal, hgo] using this
  obtain ⟨c0, c1, c2, c3⟩ := h.cells
  have lp := lt_of_getElem? h.self
  have hga := h.files g hgm
  obtain ⟨ba, bc, hbv⟩ := hga.row.slice
  have z0 : w.cell? ⟨g.fb, 0, none⟩ = some (.slice ba g.b.length bc) := by simp [World.cell?, hga.cell, hbv, bcells_len]
  have lg := lt_of_getElem? hga.cell
  have ff : ∀ i, w.frozen? ⟨p, i, none⟩ = false := fun i => by simp [World.frozen?, h.self]
  have hcl := Grow.cells (w := w)
  have hgd : Grow w w.drew := Grow.drew w
  have hw1 : IntKind.i64.wrap (used - (g.b.length : Int)) = used - (g.b.length : Int) := IntWalk.i64_in _ (by omega)
  obtain ⟨hd2', hs2'⟩ := (h.grow hgd).setUsed (used - g.b.length)
  obtain ⟨w2, hw2⟩ : ∃ x, x = (w.setCell ⟨p, 1, none⟩ (.int .i64 (used - g.b.length))).drew := ⟨_, rfl⟩
  have hd2 : DiskAt B w2 p r size (used - g.b.length) born fs := by rw [hw2]; exact hd2'
  have hs2 : Sep (Foot p r fs) w.drew w2 (Foot p r fs) := by rw [hw2]; exact hs2'
  clear hd2' hs2'
  obtain ⟨ck, hmap, hck⟩ := hd2.map
  have hkeys : ((fs.map Fe.ent).map Ent.key).Nodup := by have := hd2.names; rw [List.map_map]; exact this
  have hupd := run_mapUpdate_old keyOkS Tryz.underlying54 hmap hkeys n (.pointer (some ⟨f.fb, 0, none⟩)) ⟨g.ent, List.mem_map.2 ⟨g, hgm, rfl⟩, hgn.symm⟩
  have hmap2 : MapAt (setO w2 r (.map ((putV n (.pointer (some ⟨f.fb, 0, none⟩)) (fs.map Fe.ent)).map (Ent.raw Value.string)).toArray ck)) r Value.string (putV n (.pointer (some ⟨f.fb, 0, none⟩)) (fs.map Fe.ent)) ck := by
    unfold MapAt
    rw [setO_same (lt_of_getElem? hmap)]
  have hkeys2 : ((putV n (.pointer (some ⟨f.fb, 0, none⟩)) (fs.map Fe.ent)).map Ent.key).Nodup := by
    have : (putV n (.pointer (some ⟨f.fb, 0, none⟩)) (fs.map Fe.ent)).map Ent.key = (fs.map Fe.ent).map Ent.key := by
      unfold putV
      rw [List.map_map]
      refine List.map_congr_left fun e _ => ?_
      simp only [Function.comp]
      split <;> rfl
    rw [this]; exact hkeys
  have hdel := run_delete (ty := 0) (kt' := 9) keyOkS Tryz.underlying54 hmap2 hkeys2 m
  rw [← ent_ren m n f fs hmn] at hdel
  obtain ⟨hd3, hs3⟩ := hd2.ren hm hfm hmn hmap hck
  have hsame : setO (setO w2 r (.map ((putV n (.pointer (some ⟨f.fb, 0, none⟩)) (fs.map Fe.ent)).map (Ent.raw Value.string)).toArray ck)) r (.map (((renF m n f fs).map Fe.ent).map (Ent.raw Value.string)).toArray ck) = setO w2 r (.map (((renF m n f fs).map Fe.ent).map (Ent.raw Value.string)).toArray ck) := by
    unfold setO
    simp
  rw [hsame] at hdel
  have hself2 : (setO w2 r (.map ((putV n (.pointer (some ⟨f.fb, 0, none⟩)) (fs.map Fe.ent)).map (Ent.raw Value.string)).toArray ck)).heap[p]? = w2.heap[p]? := setO_other hd2.p_ne_r
  have e3' : (setO w2 r (.map ((putV n (.pointer (some ⟨f.fb, 0, none⟩)) (fs.map Fe.ent)).map (Ent.raw Value.string)).toArray ck)).cell? ⟨p, 3, none⟩ = some (.map (some r)) := by simp [World.cell?, hself2, hd2.self]
  have lp3 := lt_of_getElem? (hself2.trans hd2.self)
  obtain ⟨_, _, _, e3⟩ := hd2.cells
  have lp2 := lt_of_getElem? hd2.self
  have Hpost : Hid (∃ fs', DiskAt B (setO w2 r (.map (((renF m n f fs).map Fe.ent).map (Ent.raw Value.string)).toArray ck)) p r size (used - g.b.length) born fs' ∧ Sep (Foot p r fs) w (setO w2 r (.map (((renF m n f fs).map Fe.ent).map (Ent.raw Value.string)).toArray ck)) (Foot p r fs') ∧ vw fs' = renV m n f.b f.synced (vw fs)) := Lib.hid ⟨_, hd3, ((Sep.ofGrow hgd).trans hs2).trans hs3, vw_ren m n f fs⟩
  generalize hw3 : setO w2 r (.map ((putV n (.pointer (some ⟨f.fb, 0, none⟩)) (fs.map Fe.ent)).map (Ent.raw Value.string)).toArray ck) = w3 at *
  generalize hw4 : setO w2 r (.map (((renF m n f fs).map Fe.ent).map (Ent.raw Value.string)).toArray ck) = w4 at *
  have Hw2 := Lib.hid hw2
  clear hw2 hw3 hw4 hd2 hs2 hd3 hs3 hmap hck hgd hga hbv h hm hgm hfo hgo hfm hgn c0 c2 hkeys hkeys2 hmap2 hsame hself2
  have hne : (m == n) = false := by
    cases hb : (m == n) with
    | false => rfl
    | true => exact absurd ((Go.MapKept.bytes_beq _ _).1 hb) hmn
  have hne2 : (m.toList == n.toList) = false := by
    cases hb : (m.toList == n.toList) with
    | false => rfl
    | true => exact absurd (ByteArray.ext (by simpa [ByteArray.toList_eq] using hb)) hmn
  go_enter Tryz.func62, Tryz.ntmps62
  go_wp2_with ((with_reducible refine (name_ok hn _).mono ?_); rintro e w1 ⟨rfl, hw⟩; have hw' := hw.symm; subst hw'; clear hw)
  refine wp_region_last (fun W => Below w.heap.size w W) [(0, false), (1, false), (2, false), (3, false), (4, false), (5, false), (6, false), (7, false), (8, false), (9, false), (10, false), (11, false)] 12 (by kernel_rfl) (by kernel_rfl) (fun c a d v w h => by cases d <;> exact h) (Grow.drew _) ?_
  simp only [arrange, nth]
  repeat (first | (refine wpPi_quiet (v := ?_) (by rfl) (fun W hW => ?_) ?_; rotate_left; (obtain hW := hW; go_simp; with_reducible rfl); simp only [Act.put, List.setIfInBounds_toArray, List.set_cons_zero, List.set_cons_succ]) | (refine wpPi_off (by rfl) ?_; simp only [Act.put, List.setIfInBounds_toArray, List.set_cons_zero, List.set_cons_succ]))
  refine wpPi_nil ?_
  refine lastQ_act (by rfl) (fun K hK => ?_)
  go_simp
  refine hK _ ((w.setCell ⟨p, 1, none⟩ (.int .i64 (used - g.b.length))).drew) ?_
  clear hK K hcl
  try simp only [Act.put, List.setIfInBounds_toArray, List.set_cons_zero, List.set_cons_succ]
  rw [← Hw2.out]
  go_wp2
  go_ret
  exact ⟨rfl, Hpost.out⟩
end Go.Proofs.YtejpcoghkgjanaaGreatDoor

/- disk.Rename onto a name that no file has. -/
namespace Go.Proofs.YtejpcoghkgjanaaGreatDoor
open Go.RowKit Go.Gl Go.Wal

def rnwF (m n : ByteArray) (f : Fe) (c : Nat) (fs : List Fe) : List Fe := delF m fs ++ [⟨n, c, f.fb, f.bv, f.b, f.synced⟩]
def rnwV (m n : ByteArray) (b : List UInt8) (s : Nat) (V : Vw) : Vw := delV m V ++ [(n, b, s)]

theorem vw_rnw (m n : ByteArray) (f : Fe) (c : Nat) (fs : List Fe) : vw (rnwF m n f c fs) = rnwV m n f.b f.synced (vw fs) := by
  unfold rnwF rnwV
  rw [← vw_del]
  simp [vw]

theorem ent_rnw (m n : ByteArray) (f : Fe) (c : Nat) (fs : List Fe) (hmn : m ≠ n) : (rnwF m n f c fs).map Fe.ent = ((fs.map Fe.ent) ++ [(⟨n, .pointer (some ⟨f.fb, 0, none⟩), c⟩ : Ent ByteArray)]).filter (fun e => decide (m ≠ e.key)) := by
  unfold rnwF
  rw [List.map_append, ent_del, List.filter_append]
  congr 1
  rw [List.filter_cons_of_pos (by simpa using hmn), List.filter_nil]
  rfl

section
variable {B : Nat} {w : World} {p r : Nat} {size used born : Int} {fs : List Fe}
theorem DiskAt.renNew (h : DiskAt B w p r size used born fs) {m n : ByteArray} {f : Fe} (hf : f ∈ fs) (hfm : f.name = m) (hnn : ∀ g ∈ fs, n ≠ g.name) {c : Nat} (hm : MapAt w r Value.string (fs.map Fe.ent) c) (hc : ∀ f ∈ fs, f.born < c) :
    DiskAt B (setO w r (.map (((rnwF m n f c fs).map Fe.ent).map (Ent.raw Value.string)).toArray (c + 1))) p r size used born (rnwF m n f c fs) ∧
    Sep (Foot p r fs) w (setO w r (.map (((rnwF m n f c fs).map Fe.ent).map (Ent.raw Value.string)).toArray (c + 1))) (Foot p r (rnwF m n f c fs)) := by
  have hrl := lt_of_getElem? hm
  generalize hw2 : setO w r (.map (((rnwF m n f c fs).map Fe.ent).map (Ent.raw Value.string)).toArray (c + 1)) = w2
  have ho : ∀ b, b ≠ r → w2.heap[b]? = w.heap[b]? := fun b hbr => by rw [← hw2, setO_other hbr]
  have hr2 : MapAt w2 r Value.string ((rnwF m n f c fs).map Fe.ent) (c + 1) := by
    rw [← hw2]
    unfold MapAt
    rw [setO_same hrl]
  have hsz : w2.heap.size = w.heap.size := by rw [← hw2]; simp [setO]
  have hmem : ∀ g ∈ delF m fs, g ∈ fs ∧ g.name ≠ m := fun g hg => by
    obtain ⟨h1, h2⟩ := List.mem_filter.1 hg
    exact ⟨h1, fun e => by simp [e] at h2⟩
  have hpre : ∀ g ∈ rnwF m n f c fs, ∃ g0 ∈ fs, g.fb = g0.fb ∧ g.bv = g0.bv ∧ g.b = g0.b ∧ g.synced = g0.synced := by
    intro g hg
    rcases List.mem_append.1 hg with h1 | h1
    · exact ⟨g, (hmem g h1).1, rfl, rfl, rfl, rfl⟩
    · obtain rfl := List.mem_singleton.1 h1
      exact ⟨f, hf, rfl, rfl, rfl, rfl⟩
  refine ⟨⟨(ho p h.p_ne_r).trans h.self, ⟨c + 1, hr2, fun g hg => ?_⟩, ?_, ?_, ?_, ?_, fun g hg => ?_, h.base.1, h.base.2.1, by rw [hsz]; exact h.base.2.2⟩, ⟨by rw [← hw2]; rfl, by rw [← hw2]; rfl, by rw [← hw2]; rfl, by omega, fun b _ hn => ho b (fun e => hn (.inr (.inl e))), ?_⟩⟩
  · rcases List.mem_append.1 hg with h1 | h1
    · have := hc g (hmem g h1).1; omega
    · obtain rfl := List.mem_singleton.1 h1; simp
  · unfold rnwF
    rw [List.map_append]
    refine List.nodup_append.2 ⟨h.names.sublist (List.filter_sublist.map _), by simp, fun a ha b hb => ?_⟩
    simp only [List.map_cons, List.map_nil, List.mem_singleton] at hb
    subst hb
    obtain ⟨g, hg, rfl⟩ := List.mem_map.1 ha
    exact Ne.symm (hnn g (hmem g hg).1)
  · unfold rnwF
    rw [List.map_append]
    refine List.nodup_append.2 ⟨h.borns.sublist (List.filter_sublist.map _), by simp, fun a ha b hb => ?_⟩
    simp only [List.map_cons, List.map_nil, List.mem_singleton] at hb
    subst hb
    obtain ⟨g, hg, rfl⟩ := List.mem_map.1 ha
    have := hc g (hmem g hg).1
    omega
  · unfold rnwF
    rw [List.map_append]
    refine List.nodup_append.2 ⟨h.fbs.sublist (List.filter_sublist.map _), by simp, fun a ha b hb => ?_⟩
    simp only [List.map_cons, List.map_nil, List.mem_singleton] at hb
    subst hb
    obtain ⟨g, hg, rfl⟩ := List.mem_map.1 ha
    intro e
    have := fb_inj h.fbs (hmem g hg).1 hf e
    exact (hmem g hg).2 (by rw [this, hfm])
  · intro a ha b hb x hx1 hx2
    rcases List.mem_append.1 ha with h1 | h1
    · rcases List.mem_append.1 hb with h2 | h2
      · exact h.rows a (hmem a h1).1 b (hmem b h2).1 x hx1 hx2
      · obtain rfl := List.mem_singleton.1 h2
        have := h.rows a (hmem a h1).1 f hf x hx1 hx2
        exact absurd (this.trans hfm) (hmem a h1).2
    · obtain rfl := List.mem_singleton.1 h1
      rcases List.mem_append.1 hb with h2 | h2
      · have := h.rows f hf b (hmem b h2).1 x hx1 hx2
        exact absurd (this.symm.trans hfm) (hmem b h2).2
      · obtain rfl := List.mem_singleton.1 h2; rfl
  · obtain ⟨g0, h0, e1, e2, e3, e4⟩ := hpre g hg
    have hfa := h.files g0 h0
    exact ⟨by rw [e1, e2, e4]; exact (ho _ (h.fb_ne h0).2).trans hfa.cell, by rw [e2, e3]; exact hfa.row.keep (fun b hb => ho b (h.row_ne h0 hb).2.1), by rw [e1]; exact hfa.base, by rw [e3, e4]; exact hfa.sync⟩
  · rintro b (rfl | rfl | ⟨g, hg, hb⟩)
    · exact .inl (.inl rfl)
    · exact .inl (.inr (.inl rfl))
    · obtain ⟨g0, h0, e1, e2, _, _⟩ := hpre g hg
      rw [e1, e2] at hb
      exact .inl (.inr (.inr ⟨g0, h0, hb⟩))
end

set_option maxRecDepth 100000 in
set_option maxHeartbeats 4000000 in
theorem rename_new {B : Nat} {w : World} {p r : Nat} {size used born : Int} {fs : List Fe} (h : DiskAt B w p r size used born fs) {m n : ByteArray} {f : Fe} (hfo : fileOf m fs = some f) (hgo : fileOf n fs = none) (hmn : m ≠ n) (hn : NameOk n) :
    Calls Tryz.prog 62 #[.pointer (some ⟨p, 0, none⟩), .string m, .string n] w fun e w' => e = .returned (.int .i64 0) ∧ ∃ fs', DiskAt B w' p r size used born fs' ∧ Sep (Foot p r fs) w w' (Foot p r fs') ∧ vw fs' = rnwV m n f.b f.synced (vw fs) := by
  obtain ⟨hm, hfm⟩ := fileOf_some hfo
  have hnn := fileOf_none hgo
  have hlk1 : (Instr.lookup 54 (.map (some r)) (.string m) false).run Tryz.prog w = .ok (.pointer (some ⟨f.fb, 0, none⟩)) w := by
    have := h.lookup m
    simpa only [fileVal, hfo] using this
  have hlk2 : (Instr.lookup 54 (.map (some r)) (.string n) false).run Tryz.prog w = .ok (.pointer none) w := by
    have := h.lookup n
    simpa only [fileVal, hgo] using this
  obtain ⟨c0, c1, c2, c3⟩ := h.cells
  have lp := lt_of_getElem? h.self
  obtain ⟨ck, hmap, hck⟩ := h.map
  have hkeys : ((fs.map Fe.ent).map Ent.key).Nodup := by have := h.names; rw [List.map_map]; exact this
  have hupd := run_mapUpdate_new keyOkS Tryz.underlying54 hmap n (.pointer (some ⟨f.fb, 0, none⟩)) (fun e he => by obtain ⟨g, hg, rfl⟩ := List.mem_map.1 he; exact hnn g hg)
  have hmap2 : MapAt (setO w r (.map (((fs.map Fe.ent) ++ [(⟨n, .pointer (some ⟨f.fb, 0, none⟩), ck⟩ : Ent ByteArray)]).map (Ent.raw Value.string)).toArray (ck + 1))) r Value.string ((fs.map Fe.ent) ++ [(⟨n, .pointer (some ⟨f.fb, 0, none⟩), ck⟩ : Ent ByteArray)]) (ck + 1) := by
    unfold MapAt
    rw [setO_same (lt_of_getElem? hmap)]
  have hkeys2 : (((fs.map Fe.ent) ++ [(⟨n, .pointer (some ⟨f.fb, 0, none⟩), ck⟩ : Ent ByteArray)]).map Ent.key).Nodup := by
    rw [List.map_append]
    refine List.nodup_append.2 ⟨hkeys, by simp, fun a ha b hb => ?_⟩
    simp only [List.map_cons, List.map_nil, List.mem_singleton] at hb
    subst hb
    obtain ⟨e, he, rfl⟩ := List.mem_map.1 ha
    obtain ⟨g, hg, rfl⟩ := List.mem_map.1 he
    exact Ne.symm (hnn g hg)
  have hdel := run_delete (ty := 0) (kt' := 9) keyOkS Tryz.underlying54 hmap2 hkeys2 m
  rw [← ent_rnw m n f ck fs hmn] at hdel
  obtain ⟨hd3, hs3⟩ := h.renNew hm hfm hnn hmap hck
  have hsame : setO (setO w r (.map (((fs.map Fe.ent) ++ [(⟨n, .pointer (some ⟨f.fb, 0, none⟩), ck⟩ : Ent ByteArray)]).map (Ent.raw Value.string)).toArray (ck + 1))) r (.map (((rnwF m n f ck fs).map Fe.ent).map (Ent.raw Value.string)).toArray (ck + 1)) = setO w r (.map (((rnwF m n f ck fs).map Fe.ent).map (Ent.raw Value.string)).toArray (ck + 1)) := by
    unfold setO
    simp
  rw [hsame] at hdel
  have hself2 : (setO w r (.map (((fs.map Fe.ent) ++ [(⟨n, .pointer (some ⟨f.fb, 0, none⟩), ck⟩ : Ent ByteArray)]).map (Ent.raw Value.string)).toArray (ck + 1))).heap[p]? = w.heap[p]? := setO_other h.p_ne_r
  have lp3 := lt_of_getElem? (hself2.trans h.self)
  have Hpost : Hid (∃ fs', DiskAt B (setO w r (.map (((rnwF m n f ck fs).map Fe.ent).map (Ent.raw Value.string)).toArray (ck + 1))) p r size used born fs' ∧ Sep (Foot p r fs) w (setO w r (.map (((rnwF m n f ck fs).map Fe.ent).map (Ent.raw Value.string)).toArray (ck + 1))) (Foot p r fs') ∧ vw fs' = rnwV m n f.b f.synced (vw fs)) := Lib.hid ⟨_, hd3, hs3, vw_rnw m n f ck fs⟩
  generalize hw3 : setO w r (.map (((fs.map Fe.ent) ++ [(⟨n, .pointer (some ⟨f.fb, 0, none⟩), ck⟩ : Ent ByteArray)]).map (Ent.raw Value.string)).toArray (ck + 1)) = w3 at *
  generalize hw4 : setO w r (.map (((rnwF m n f ck fs).map Fe.ent).map (Ent.raw Value.string)).toArray (ck + 1)) = w4 at *
  have e3' : w3.cell? ⟨p, 3, none⟩ = some (.map (some r)) := by simp [World.cell?, hself2, h.self]
  clear hw3 hw4 hd3 hs3 hmap hck h hm hfo hgo hfm hnn c0 c1 c2 hkeys hkeys2 hmap2 hsame hself2
  have hne : (m == n) = false := by
    cases hb : (m == n) with
    | false => rfl
    | true => exact absurd ((Go.MapKept.bytes_beq _ _).1 hb) hmn
  have hne2 : (m.toList == n.toList) = false := by
    cases hb : (m.toList == n.toList) with
    | false => rfl
    | true => exact absurd (ByteArray.ext (by simpa [ByteArray.toList_eq] using hb)) hmn
  go_enter Tryz.func62, Tryz.ntmps62
  go_wp2_with ((with_reducible refine (name_ok hn _).mono ?_); rintro e w1 ⟨rfl, hw⟩; have hw' := hw.symm; subst hw'; clear hw)
  go_ret
  exact ⟨rfl, Hpost.out⟩

set_option maxRecDepth 100000 in
set_option maxHeartbeats 4000000 in
theorem append1_full {B : Nat} {w : World} {p r : Nat} {size used born : Int} {fs : List Fe} (h : DiskAt B w p r size used born fs) {n : ByteArray} (hn : NameOk n)
    {qb : Nat} {pv : Value} {x : List UInt8} (hq : w.heap[qb]? = some (.cells #[pv] 69 (0, 0))) (hx : Bv w pv x) (hu : 0 ≤ used) (hus : used ≤ 1073741824) (hxl : x.length ≤ 1000000000000) (hfull : size < used + x.length) :
    Calls Tryz.prog 24 #[.pointer (some ⟨p, 0, none⟩), .string n, .slice (some ⟨qb, 0, none⟩) 1 1] w fun e w' => e = .returned (.int .i64 5) ∧ Grow w w' := by
  obtain ⟨c0, c1, c2, c3⟩ := h.cells
  have lp := lt_of_getElem? h.self
  have p0 : w.cell? ⟨qb, 0, none⟩ = some pv := by simp [World.cell?, hq]
  have lq := lt_of_getElem? hq
  obtain ⟨xa, xc, rfl⟩ := hx.slice
  have hroom2 : decide (size < used + (x.length : Int)) = true := by simpa using hfull
  have hw1 : IntKind.i64.wrap (used + (x.length : Int)) = used + (x.length : Int) := IntWalk.i64_in _ (by omega)
  have hw2 : IntKind.i64.wrap (0 + (x.length : Int)) = (x.length : Int) := by rw [Int.zero_add]; exact IntWalk.i64_in _ (by omega)
  have hw3 : IntKind.i64.wrap (x.length : Int) = (x.length : Int) := IntWalk.i64_in _ (by omega)
  have hcl := Grow.cells (w := w)
  clear h hx hq
  go_enter Tryz.func24, Tryz.ntmps24
  go_wp2_with fail
  refine wp_loop_rounds 2 ?_
  rw [rounds_succ]
  go_wp2_with fail
  rw [rounds_succ]
  go_wp2_with ((with_reducible refine (name_ok hn _).mono ?_); rintro e w1 ⟨rfl, hw⟩; have hw' := hw.symm; subst hw'; clear hw)
  refine wp_region_pi (fun W => Below w.heap.size w W) [(0, false), (1, false), (2, false), (3, false), (4, false), (5, false), (6, false), (7, false), (8, false), (9, false), (10, false), (11, false)] (by kernel_rfl) (by kernel_rfl) (fun c a d v w h => by cases d <;> exact h) (Grow.drew _) ?_
  simp only [arrange, nth]
  repeat (first | (refine wpPi_quiet (v := ?_) (by rfl) (fun W hW => ?_) ?_; rotate_left; (obtain hW := hW; go_simp; with_reducible rfl); simp only [Act.put, List.setIfInBounds_toArray, List.set_cons_zero, List.set_cons_succ]) | (refine wpPi_off (by rfl) ?_; simp only [Act.put, List.setIfInBounds_toArray, List.set_cons_zero, List.set_cons_succ]))
  refine wpPi_nil ?_
  go_wp2
  go_ret
  exact ⟨rfl, Grow.drew w⟩
end Go.Proofs.YtejpcoghkgjanaaGreatDoor
