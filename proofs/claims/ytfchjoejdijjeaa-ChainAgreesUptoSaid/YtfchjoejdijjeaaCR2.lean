/- Merged out of FR, FS: helpers. -/
import Derived.Test.YtfchjoejdijjeaaCQ2
import Derived.KernelRfl
set_option linter.unusedSimpArgs false
set_option linter.unusedVariables false
/- The law's known case: what the model tells; what came in stays. -/
namespace Go.Ch
namespace Kn
def k2 : Wd Unit := ((Wd.fresh0 2).command ⟨1, 0, 0, 0⟩).command ⟨1, 1, 0, 0⟩
def k3 : Wd Unit := k2.configure 0 2
def k4 : Wd Unit := k3.configure 1 2
def k5 : Wd Unit := k4.settle 3
def k6 : Wd Unit := k5.submit 0 ()
def k7 : Wd Unit := k6.settle 3
theorem ok7 : k7.ok = true := by kernel_rfl
theorem len2 : k2.cfgs.length = 3 := by kernel_rfl
theorem len3 : k3.cfgs.length = 3 := by kernel_rfl
theorem tk5 : takes (k5.nd 0) (k5.box 0) = true := by kernel_rfl
theorem row7 : k7.row = [()] := by kernel_rfl
theorem wh7 : wholeB (k7.nd 1) (k7.box 1) = true := by kernel_rfl
theorem hd7 : headB (k7.nd 0) (k7.box 0) = true := by kernel_rfl
theorem cm7 : (k7.box 1).cmds.length = 1 := by kernel_rfl
theorem ok6 : k6.ok = true := settle_ok1 ok7
theorem ok5 : k5.ok = true := put_ok1 ok6
theorem ok4 : k4.ok = true := settle_ok1 ok5
theorem ok3 : k3.ok = true := put_ok1 ok4
end Kn
end Go.Ch
namespace Go.Proofs.Ytfchjoejdijjeaa
open Go.RowKit Go.Gl Go.Wal Go.Ch Go.Shelf
section
variable {C : Type} {f : C → List UInt8} {w wr w2 : World} {wb P L K : Nat} {W : Wd C}
theorem wt_grow (h : Wt f (fun x => w.heap.size ≤ x) w wb P L K W wr) : Grow w wr := by
  obtain ⟨V, ps, h1, h2, h3, h4⟩ := h
  exact ⟨h4.os, h4.tape, h4.output, h4.size, fun b hb => h4.out b hb (by omega)⟩
theorem wt_nw {V : Vs} {ps : List Pl} (s : Sep (fun x => w.heap.size ≤ x) w wr (FW wb V ps)) (x : Nat) (hx : x < w.heap.size) : NW wb V ps x := fun hF => by
  rcases s.foot x hF with h | h
  · have : w.heap.size ≤ x := h; omega
  · omega
theorem bv_bw {v : Value} {l : List UInt8} (h : Bv w v l) : Bw (fun x => x < w.heap.size) w v l := by
  refine ⟨h, ?_⟩
  obtain ⟨a, c, rfl, _, _, _, h⟩ := h
  rcases h with h | ⟨b, o, rfl, hb, _⟩
  · exact .inl h
  · exact .inr fun b' h' => by cases h'; exact hb
/-- What came in is no part of the law's world. -/
theorem bw_in {v : Value} {l : List UInt8} (h : Bv w v l) {V : Vs} {ps : List Pl} (s : Sep (fun x => w.heap.size ≤ x) w wr (FW wb V ps)) : Bw (NW wb V ps) wr v l :=
  ((bv_bw h).kp ⟨s.size, fun b hb _ => s.out b hb (by omega)⟩).mono (fun x hx _ => wt_nw s x hx)
/-- A node of the law's world, as it is read. -/
structure LookAt (f : C → List UInt8) (wr : World) (wb P i : Nat) (d : Nd) (b : Box C) (g gc nb gx gxc bb : Nat) (ba : Option Addr) (bc : Nat) : Prop where
  lw : wb < wr.heap.size
  lg : g < wr.heap.size
  lx : gx < wr.heap.size
  lb : bb < wr.heap.size
  c0 : wr.cell? ⟨wb, 0, none⟩ = some (.slice (some ⟨g, 0, none⟩) P gc)
  c1 : wr.cell? ⟨wb, 1, none⟩ = some (.slice (some ⟨gx, 0, none⟩) P gxc)
  cn : wr.cell? ⟨g, i, none⟩ = some (.pointer (some ⟨nb, 0, none⟩))
  cx : wr.cell? ⟨gx, i, none⟩ = some (.pointer (some ⟨bb, 0, none⟩))
  cb : wr.cell? ⟨bb, 0, none⟩ = some (.slice ba b.cmds.length bc)
  nd : ∃ N cv cfv sv, NdAt f N wr nb bb cv cfv sv d b
theorem LookAt.grow {i : Nat} {d : Nd} {b : Box C} {g gc nb gx gxc bb : Nat} {ba : Option Addr} {bc : Nat} (h : LookAt f wr wb P i d b g gc nb gx gxc bb ba bc) (hg : Grow wr w2) : LookAt f w2 wb P i d b g gc nb gx gxc bb ba bc := by
  obtain ⟨N, cv, cfv, sv, hn⟩ := h.nd
  have hs := hg.size
  exact ⟨Nat.lt_of_lt_of_le h.lw hs, Nat.lt_of_lt_of_le h.lg hs, Nat.lt_of_lt_of_le h.lx hs, Nat.lt_of_lt_of_le h.lb hs, (hg.cell h.lw).trans h.c0, (hg.cell h.lw).trans h.c1, (hg.cell h.lg).trans h.cn, (hg.cell h.lx).trans h.cx, (hg.cell h.lb).trans h.cb, N, cv, cfv, sv, hn.grow hg⟩
theorem LookAt.whole {i : Nat} {d : Nd} {b : Box C} {g gc nb gx gxc bb : Nat} {ba : Option Addr} {bc : Nat} (h : LookAt f wr wb P i d b g gc nb gx gxc bb ba bc) : Calls Try.prog 15 #[.pointer (some ⟨nb, 0, none⟩)] wr fun e w' => e = .returned (.bool (wholeB d b)) ∧ Grow wr w' := by
  obtain ⟨N, cv, cfv, sv, hn⟩ := h.nd
  exact nwhole_any hn
theorem LookAt.head {i : Nat} {d : Nd} {b : Box C} {g gc nb gx gxc bb : Nat} {ba : Option Addr} {bc : Nat} (h : LookAt f wr wb P i d b g gc nb gx gxc bb ba bc) : Calls Try.prog 16 #[.pointer (some ⟨nb, 0, none⟩)] wr fun e w' => e = .returned (.bool (headB d b)) ∧ Grow wr w' := by
  obtain ⟨N, cv, cfv, sv, hn⟩ := h.nd
  exact nhead_any hn
theorem LookAt.first {i : Nat} {d : Nd} {b : Box C} {g gc nb gx gxc bb : Nat} {ba : Option Addr} {bc : Nat} (h : LookAt f wr wb P i d b g gc nb gx gxc bb ba bc) : Calls Try.prog 14 #[.pointer (some ⟨bb, 0, none⟩)] wr fun e w' => e = .returned (.int .u64 ((b.first + 1 : Nat) : Int)) ∧ w' = wr := by
  obtain ⟨N, cv, cfv, sv, hn⟩ := h.nd
  exact bfirst_any hn.box
theorem Wt.look {F0 : Nat → Prop} (h : Wt f F0 w wb P L K W wr) {i : Nat} (hi : i < P) : ∃ g gc nb gx gxc bb ba bc, LookAt f wr wb P i (W.nd i) (W.box i) g gc nb gx gxc bb ba bc := by
  obtain ⟨V, ps, h1, h2, h3, h4⟩ := h
  obtain ⟨p, d, b, g, gc, hp, hd, hbx, hnd, hnv, hcell, hgl⟩ := h2.node (i := i) (by omega)
  obtain ⟨n0, n1, _⟩ := h2.cells
  rw [hnv, h1] at n0
  have hxr := h2.xrow
  have hx : (ps.map ptrX)[i]? = some (ptrX p) := by rw [List.getElem?_map, hp]; rfl
  obtain ⟨gx, gxc, hxv, hxl, hxc⟩ : ∃ gx gxc, V.xv = .slice (some ⟨gx, 0, none⟩) P gxc ∧ gx < wr.heap.size ∧ wr.cell? ⟨gx, i, none⟩ = some (ptrX p) := by
    rcases id hxr with ⟨_, e⟩ | ⟨g, cap, cur, e, hB, hg, hr⟩
    · rw [e] at hx; simp at hx
    · have := hxr.cells (g := g) (by rw [e]; rfl) hx
      exact ⟨g, cap, by rw [e, List.length_map, h1], lt_of_getElem? hg, this⟩
  rw [hxv] at n1
  obtain ⟨ba, bc, hcv⟩ := hnd.box.row.slice
  rw [nd_of hd, box_of hbx]
  refine ⟨g, gc, p.nb, gx, gxc, p.bb, ba, bc, h2.wlt, hgl, hxl, lt_of_getElem? hnd.box.blk, n0, n1, hcell, hxc, ?_, _, _, _, _, hnd⟩
  rw [← hcv]; exact hnd.box.cells.1
/-- A committed command, as it is read. -/
theorem Wt.rowAt {F0 : Nat → Prop} (h : Wt f F0 w wb P L K W wr) {i : Nat} {c : C} (hc : W.row[i]? = some c) :
    ∃ g cap ua uc, wr.cell? ⟨wb, 5, none⟩ = some (.slice (some ⟨g, 0, none⟩) W.row.length cap) ∧ g < wr.heap.size ∧ wr.cell? ⟨g, i, none⟩ = some (.slice ua (f c).length uc) ∧ Bv wr (.slice ua (f c).length uc) (f c) := by
  obtain ⟨V, ps, h1, h2, h3, h4⟩ := h
  obtain ⟨g, cap, u, e, hg, hcell, hu⟩ := h2.row.get hc
  obtain ⟨ua, uc, rfl⟩ := hu.slice
  exact ⟨g, cap, ua, uc, by rw [← e]; exact h2.cells.2.2.2.2.2.1, hg, hcell, hu.1⟩
theorem Wt.wrong {F0 : Nat → Prop} (h : Wt f F0 w wb P L K W wr) : wr.cell? ⟨wb, 6, none⟩ = some (.bool (!W.ok)) := by
  obtain ⟨V, ps, h1, h2, h3, h4⟩ := h
  exact h2.cells.2.2.2.2.2.2
end
/-- '[]byte("x")'. -/
abbrev litW (W : World) (cs : Array Value) : World := W.alloc (.cells cs 5)
abbrev litF (W : World) (cs : Array Value) (n : Nat) : World := (litW W cs).freeze ⟨W.heap.size, n, none⟩ 1
theorem conv_x (W : World) : (convert 28 28 (.slice (some ⟨W.heap.size, 0, none⟩) 1 1)).run Try.prog (litW W #[.int .u8 120]) = .ok (.slice (some ⟨W.heap.size, 0, none⟩) 1 1) (litF W #[.int .u8 120] 1) := by
  have hsh : (litW W #[.int .u8 120]).shape? W.heap.size = some (5, 1) := by
    have hB := heap_alloc_new W (.cells #[.int .u8 120] 5)
    unfold World.shape?
    rw [hB]
    rfl
  simp [convert, go_sem, markStringish, hsh]
theorem grow_lit (W : World) (cs : Array Value) (n : Nat) : Grow W (litF W cs n) := Lib.below_freeze (Grow.alloc _ _) (p := ⟨W.heap.size, n, none⟩) (Nat.le_refl _) 1
theorem bv_lit (W : World) (l : List UInt8) (hl : 0 < l.length) (hm : l.length ≤ 1000) : Bv (litF W (bcells l).toArray l.length) (.slice (some ⟨W.heap.size, 0, none⟩) l.length l.length) l := by
  have hB := heap_alloc_new W (.cells (bcells l).toArray 5)
  have hc : ∀ j, (litF W (bcells l).toArray l.length).cell? ⟨W.heap.size, j, none⟩ = (bcells l).toArray[j]? := fun j => by
    have : (litF W (bcells l).toArray l.length).heap[W.heap.size]? = some (.cells (bcells l).toArray 5 (l.length, l.length + 1)) := by
      have h0 : l.length ≠ 0 := by omega
      simp [litF, World.freeze, World.alloc, -World.alloc_eq, Array.getElem_modify, h0]
    unfold World.cell?
    rw [this]
    rfl
  refine ⟨_, l.length, rfl, Nat.le_refl _, by unfold maxLen; omega, (fun h => by cases h), .inr ⟨W.heap.size, 0, rfl, by simp [litF, World.freeze, World.alloc, -World.alloc_eq], fun j k hk => ?_⟩⟩
  rw [Nat.zero_add, hc]
  simp [bcells, hk]
end Go.Proofs.Ytfchjoejdijjeaa

/- The law's known case is true. -/
namespace Go.Proofs.Ytfchjoejdijjeaa
open Go.RowKit Go.Gl Go.Wal Go.Ch Go.Shelf
section
variable {C : Type} [DecidableEq C] {f : C → List UInt8} {F0 : Nat → Prop} {w wr w6 : World} {wb P L K : Nat} {W : Wd C}
theorem Wt.submitG (h : Wt f F0 w wb P L K W w6) (hg : Grow w6 wr) (hL : L ≤ 80000) (hP : P ≤ 16) (hf : ∀ c, (f c).length ≤ 1048576) {i : Nat} (hi : i < P) {c : C} {xv : Value} (hx : ∀ V ps, WAt f w6 wb V ps W → Sep F0 w w6 (FW wb V ps) → Bw (NW wb V ps) wr xv (f c)) (hok : (W.submit i c).ok = true) :
    Calls Try.prog 13 #[.pointer (some ⟨wb, 0, none⟩), .int .i64 (i : Int), xv] wr fun e w' => e = .returned (.bool (takes (W.nd i) (W.box i))) ∧ Wt f F0 w wb P (L + 1) K (W.submit i c) w' := by
  obtain ⟨V, ps, h1, h2, h3, h4⟩ := h
  refine (wsubmit_any (h2.grow hg) h3 (by omega) (by omega) hf (by omega) (hx V ps h2 h4) hok).mono ?_
  rintro e w' ⟨he, V', ps', k1, k2, k3⟩
  refine ⟨he, V', ps', k1.trans h1, k2, ?_, (h4.grow hg).trans k3⟩
  obtain ⟨p, d, b, a1, a2, a3, a4⟩ := h2.nds.get (i := i) (by omega)
  refine h3.put (Nat.le_succ L) ?_ hok
  rw [nd_of a2, box_of a3]
  exact subM_c (h3.box b (List.mem_of_getElem? a3)) (h3.nd d (List.mem_of_getElem? a2)) c
end
abbrev fU (_ : Unit) : List UInt8 := [120]
theorem cmdOk1 (i : Nat) (hi : i < 16) : CmdOk ⟨1, i, 0, 0⟩ := ⟨Nat.le_refl _, Nat.le_of_ble_eq_true rfl, hi, Nat.zero_le _, Nat.zero_le _⟩
set_option maxRecDepth 100000 in
set_option maxHeartbeats 4000000 in
theorem known_any (w : World) : Calls Try.prog 6 #[] w fun e w' => e = .returned (.bool true) ∧ Grow w w' := by
  have Hb : Hid (Calls Try.prog 8 #[.int .i64 2] w fun e w' => ∃ wb, e = .returned (.pointer (some ⟨wb, 0, none⟩)) ∧ Wt fU (fun x => w.heap.size ≤ x) w wb 2 0 0 (Wd.fresh0 2) w') := Lib.hid (begun_any (M := 2) (by decide))
  have hf : ∀ c, (fU c).length ≤ 1048576 := fun _ => Nat.le_of_ble_eq_true rfl
  go_enter Try.func6, Try.ntmps6
  go_wp2_with fail
  (with_reducible refine Hb.out.mono ?_)
  rintro e w1 ⟨wb, rfl, h1⟩
  have Hc1 : Hid (Calls Try.prog 11 #[.pointer (some ⟨wb, 0, none⟩), .agg #[.int .i64 1, .int .i64 0, .int .i64 0, .int .i64 0]] w1 fun e w' => e = .returned (.tuple #[]) ∧ Wt fU (fun x => w.heap.size ≤ x) w wb 2 0 1 ((Wd.fresh0 2).command ⟨1, 0, 0, 0⟩) w') := Lib.hid (h1.command (by decide) (cmdOk1 0 (by decide)))
  clear Hb h1
  go_wp2_with fail
  (with_reducible refine Hc1.out.mono ?_)
  rintro e w2 ⟨rfl, h2⟩
  have Hc2 : Hid (Calls Try.prog 11 #[.pointer (some ⟨wb, 0, none⟩), .agg #[.int .i64 1, .int .i64 1, .int .i64 0, .int .i64 0]] w2 fun e w' => e = .returned (.tuple #[]) ∧ Wt fU (fun x => w.heap.size ≤ x) w wb 2 0 2 Kn.k2 w') := Lib.hid (h2.command (by decide) (cmdOk1 1 (by decide)))
  clear Hc1 h2
  go_wp2_with fail
  (with_reducible refine Hc2.out.mono ?_)
  rintro e w3 ⟨rfl, h3⟩
  obtain ⟨lw3, _, _, ⟨ka, kc, c3⟩, _⟩ := h3.read
  rw [Kn.len2] at c3
  have Hf1 : Hid (Calls Try.prog 18 #[.pointer (some ⟨wb, 0, none⟩), .int .i64 0, .int .i64 2] w3 fun e w' => e = .returned (.tuple #[]) ∧ Wt fU (fun x => w.heap.size ≤ x) w wb 2 0 2 Kn.k3 w') := Lib.hid (h3.configure (i := 0) (n := 2) (by decide) (by decide) hf (by decide) (by rw [Kn.len2]; decide) Kn.ok3)
  clear Hc2 h3
  go_wp2_with fail
  (with_reducible refine Hf1.out.mono ?_)
  rintro e w4 ⟨rfl, h4⟩
  obtain ⟨lw4, _, _, ⟨ka4, kc4, c4⟩, _⟩ := h4.read
  rw [Kn.len3] at c4
  have Hf2 : Hid (Calls Try.prog 18 #[.pointer (some ⟨wb, 0, none⟩), .int .i64 1, .int .i64 2] w4 fun e w' => e = .returned (.tuple #[]) ∧ Wt fU (fun x => w.heap.size ≤ x) w wb 2 0 2 Kn.k4 w') := Lib.hid (h4.configure (i := 1) (n := 2) (by decide) (by decide) hf (by decide) (by rw [Kn.len3]; decide) Kn.ok4)
  clear Hf1 h4 c3 lw3
  go_wp2_with fail
  (with_reducible refine Hf2.out.mono ?_)
  rintro e w5 ⟨rfl, h5⟩
  have Hs1 : Hid (Calls Try.prog 12 #[.pointer (some ⟨wb, 0, none⟩), .int .i64 3] w5 fun e w' => e = .returned (.tuple #[]) ∧ Wt fU (fun x => w.heap.size ≤ x) w wb 2 0 50 Kn.k5 w') := Lib.hid (h5.settle (R := 3) (by decide) (by decide) (by decide) (by decide) hf Kn.ok5)
  clear Hf2 h5 c4 lw4
  go_wp2_with fail
  (with_reducible refine Hs1.out.mono ?_)
  rintro e w6 ⟨rfl, h6⟩
  have hg7 := grow_lit w6 #[.int .u8 120] 1
  have hsub : Hid (Calls Try.prog 13 #[.pointer (some ⟨wb, 0, none⟩), .int .i64 0, .slice (some ⟨w6.heap.size, 0, none⟩) 1 1] (litF w6 #[.int .u8 120] 1) fun e w' => e = .returned (.bool true) ∧ Wt fU (fun x => w.heap.size ≤ x) w wb 2 1 50 Kn.k6 w') := Lib.hid (by
    have := h6.submitG hg7 (i := 0) (c := ()) (by decide) (by decide) hf (by decide) (xv := .slice (some ⟨w6.heap.size, 0, none⟩) 1 1) (fun V ps hw hs => ⟨bv_lit w6 [120] (by decide) (by decide), .inr fun b hb hF => by
      cases hb
      exact absurd (hw.lt hF) (Nat.lt_irrefl _)⟩) Kn.ok6
    rw [Kn.tk5] at this
    exact this)
  have hcx := conv_x w6
  clear Hs1 h6 hg7
  go_wp2_with fail
  (with_reducible refine hsub.out.mono ?_)
  rintro e w7 ⟨rfl, h7⟩
  have Hs2 : Hid (Calls Try.prog 12 #[.pointer (some ⟨wb, 0, none⟩), .int .i64 3] w7 fun e w' => e = .returned (.tuple #[]) ∧ Wt fU (fun x => w.heap.size ≤ x) w wb 2 1 98 Kn.k7 w') := Lib.hid (h7.settle (R := 3) (by decide) (by decide) (by decide) (by decide) hf Kn.ok7)
  clear hsub h7 hcx
  go_wp2_with fail
  (with_reducible refine Hs2.out.mono ?_)
  rintro e w8 ⟨rfl, h8⟩
  obtain ⟨g5, cap5, ua, uc, z5, lg5, z6, hbv⟩ := h8.rowAt (i := 0) (c := ()) (by rw [Kn.row7]; rfl)
  rw [Kn.row7] at z5
  obtain ⟨g, gc, nb, gx, gxc, bb, ba, bc, hl0⟩ := h8.look (i := 0) (by decide)
  obtain ⟨g', gc', nb', gx', gxc', bb', ba', bc', hl1⟩ := h8.look (i := 1) (by decide)
  have z5' : w8.cell? ⟨wb, 5, none⟩ = some (.slice (some ⟨g5, 0, none⟩) 1 cap5) := z5
  have z6' : w8.cell? ⟨g5, 0, none⟩ = some (.slice ua 1 uc) := z6
  have hcv : (convert 28 9 (.slice ua 1 uc)).run Try.prog w8 = .ok (.string ⟨#[120]⟩) w8 := conv_text hbv
  have Hw1 := Lib.hid hl1.whole
  rw [Kn.wh7] at Hw1
  have HL0 := Lib.hid hl0
  have HL1 := Lib.hid hl1
  have H8 := Lib.hid (wt_grow h8)
  have k0 := hl1.c0
  have k1 := hl1.cn
  have l0 := hl1.lw
  have l1 := hl1.lg
  clear z5 z6 hbv hl0 hl1 h8 Hs2 hf
  go_wp2_with fail
  (with_reducible refine Hw1.out.mono ?_)
  rintro e w9 ⟨rfl, hg9⟩
  have hm0 := HL0.out.grow hg9
  have Hh := Lib.hid hm0.head
  rw [Kn.hd7] at Hh
  have HG9 := Lib.hid hg9
  clear k0 k1 l0 l1 z5' z6' hcv lg5 hg9 Hw1
  have k0 := hm0.c0
  have k1 := hm0.cn
  have l0 := hm0.lw
  have l1 := hm0.lg
  clear hm0
  go_wp2_with fail
  (with_reducible refine Hh.out.mono ?_)
  rintro e w10 ⟨rfl, hg10⟩
  have hm1 := (HL1.out.grow HG9.out).grow hg10
  clear k0 k1 l0 l1
  have k1 := hm1.c1
  have k2 := hm1.cx
  have k3 := hm1.cb
  rw [Kn.cm7] at k3
  have l0 := hm1.lw
  have l1 := hm1.lx
  have l2 := hm1.lb
  have Hfin := Lib.hid ((H8.out.trans HG9.out).trans hg10)
  clear hm1 hg10 Hh
  go_wp2
  go_ret
  exact ⟨rfl, Hfin.out⟩
end Go.Proofs.Ytfchjoejdijjeaa
