/- Merged out of FQ: helpers. -/
import Derived.Test.YtfchjoejdijjeaaCZ
set_option linter.unusedSimpArgs false
set_option linter.unusedVariables false
/- The law's world: begun. -/
namespace Go.Proofs.Ytfchjoejdijjeaa
open Go.RowKit Go.Gl Go.Wal Go.Ch Go.Shelf
section
variable {w : World} {v : Value} {xs : List Value} {B : Nat}
theorem Try.infoPN : (Try.prog.info? 50).map (fun i => (i.zero, i.size, i.bytes)) = some (some (.pointer none), 1, 8) := by kernel_rfl
theorem Try.infoPX : (Try.prog.info? 48).map (fun i => (i.zero, i.size, i.bytes)) = some (some (.pointer none), 1, 8) := by kernel_rfl
/-- An element more in one of the world's rows. -/
theorem beg_push {t e : TypeId} {z : Value} {bytes : Nat} (ht : Try.prog.underlying t = some (.slice e)) (hi : (Try.prog.info? e).map (fun i => (i.zero, i.size, i.bytes)) = some (some z, 1, bytes)) (hz1 : z.cells.size = 1) (hby : bytes ≤ 8)
    (h : Row1 e B w v xs) {u : Value} (hu : u.oneCell' = true) (hl : xs.length ≤ 1000) {wb j : Nat} {arr : Array Value} (hblk : w.heap[wb]? = some (.cells arr 44 (0, 0))) (hj : arr[j]? = some v) (het : 44 ≠ e) (hB : B ≤ wb) :
    ∃ v' w', (Builtin.append_ #[t, t] t #[v, .slice (some ⟨w.heap.size, 0, none⟩) 1 1]).run Try.prog (w.alloc (.cells #[u] e)) = .ok v' w' ∧ wb < w'.heap.size ∧ w'.cell? ⟨wb, j, none⟩ = some v ∧ w'.frozen? ⟨wb, j, none⟩ = false ∧ (∃ a c, v' = .slice a (xs.length + 1) c) ∧
      Row1 e B (w'.setCell ⟨wb, j, none⟩ v') v' (xs ++ [u]) ∧ (w'.setCell ⟨wb, j, none⟩ v').heap[wb]? = some (.cells (arr.setIfInBounds j v') 44 (0, 0)) ∧
      (∀ g cur q p, w.heap[g]? = some (Obj.cells cur q p) → q ≠ e → g ≠ wb → (w'.setCell ⟨wb, j, none⟩ v').heap[g]? = some (Obj.cells cur q p)) ∧ Below B w (w'.setCell ⟨wb, j, none⟩ v') := by
  have hwl := lt_of_getElem? hblk
  have hga : Grow w (w.alloc (.cells #[u] e)) := Grow.alloc _ _
  have hsrc : Src Try.prog 1 t (.slice (some ⟨w.heap.size, 0, none⟩) 1 1) 1 [u] (w.alloc (.cells #[u] e)) :=
    Src.ofSlice _ ht _ _ _ _ rfl (fun j x hx => by
      match j, hx with
      | 0, hx =>
        cases hx
        have := heap_alloc_new w (.cells #[u] e)
        rw [Addr.add_lit]
        unfold World.cell?
        rw [show (⟨w.heap.size, 0 + 0, none⟩ : Addr).block = w.heap.size from rfl, this]; rfl
      | j + 1, hx => simp at hx) (fun x hx => by rw [List.mem_singleton.1 hx]; exact hu)
  have hmul : (xs.length + 1) * bytes ≤ 1001 * 8 := Nat.mul_le_mul (by omega) hby
  obtain ⟨v', w', r1, r2, r3, r4⟩ := run_append_row (ty := t) ht hi hz1 (h.grow hga) hsrc (Nat.le_trans hB (Nat.le_trans (Nat.le_of_lt hwl) hga.size)) (by unfold maxLen; omega) (by omega)
  have hvw : v.ownBlock ≠ some wb := h.apart hblk het
  have hk : ∀ g cur q p, w.heap[g]? = some (Obj.cells cur q p) → q ≠ e → w'.heap[g]? = some (Obj.cells cur q p) := fun g cur q p hg hq => by
    rw [r3.block g (Nat.lt_of_lt_of_le (lt_of_getElem? hg) hga.size) (fun e => h.apart hg hq e.symm)]
    exact hga.heap hg
  have hbk := hk wb arr _ _ hblk het
  have hv' : v'.ownBlock ≠ some wb := r2.apart hbk het
  obtain ⟨a, c, hs⟩ := r2.slice
  refine ⟨v', w', r1, lt_of_getElem? hbk, by simp [World.cell?, hbk, hj], frz hbk j, ⟨a, c, by rw [hs, List.length_append]; rfl⟩, r2.keep (fun g hg => Below.heap_setCell _ _ _ _ (fun e => hv' (by rw [hg]; exact congrArg some e))), setCell_heap hbk j v', fun g cur q p hg hq hne => (Below.heap_setCell _ _ _ _ hne).trans (hk g cur q p hg hq), ?_⟩
  have hb : Below B w w' := ⟨r3.os.trans hga.os, r3.tape.trans hga.tape, r3.output.trans hga.output, Nat.le_trans hga.size r3.size, fun k hk => by
    have hkl : k < w.heap.size := by omega
    rw [r3.block k (Nat.lt_of_lt_of_le hkl hga.size) (fun e => by have := (h.lt e.symm).1; omega)]
    exact hga.block k hkl⟩
  exact Below.setCell hb hB _
end
section
variable {C : Type} {f : C → List UInt8} {w wr w' : World} {wb kb : Nat} {nv xv bv : Value} {ps : List Pl} {i : Nat}
/-- The world while it is begun: i nodes so far. -/
structure BegI (f : C → List UInt8) (w wr : World) (wb kb : Nat) (nv xv bv : Value) (ps : List Pl) (i : Nat) : Prop where
  ln : ps.length = i
  gr : Grow w wr
  wbl : w.heap.size ≤ wb
  kbl : w.heap.size ≤ kb
  blk : wr.heap[wb]? = some (.cells #[nv, xv, bv, .slice none 0 0, .slice (some ⟨kb, 0, none⟩) 1 1, .slice none 0 0, .bool false] 44 (0, 0))
  kbk : wr.heap[kb]? = some (.cells #[.int .i64 0, .slice none 0 0, .slice none 0 0] 59 (0, 0))
  nrow : Row1 50 w.heap.size wr nv (ps.map ptrN)
  xrow : Row1 48 w.heap.size wr xv (ps.map ptrX)
  brow : Row1 3 w.heap.size wr bv (List.replicate i (numV 0))
  nds : NdsAt f (fun _ => False) wr ps ((List.range i).map fun j => newD j 0) (List.replicate i Box.new)
  low : ∀ p ∈ ps, ∀ x, FP p x → w.heap.size ≤ x
theorem BegI.wat (h : BegI f w wr wb kb nv xv bv ps i) : Wt f (fun x => w.heap.size ≤ x) w wb i 0 0 (Wd.fresh0 i : Wd C) wr := by
  have hlow : ∀ x, FW wb ⟨nv, xv, bv, .slice none 0 0, .slice (some ⟨kb, 0, none⟩) 1 1, .slice none 0 0⟩ ps x → w.heap.size ≤ x := fun x hx => by
    rcases hx with rfl | hx | hx | hx | hx | hx | hx | ⟨p, hp, hx⟩
    · exact h.wbl
    · exact (h.nrow.lt hx).1
    · exact (h.xrow.lt hx).1
    · exact (h.brow.lt hx).1
    · cases hx
    · cases hx; exact h.kbl
    · cases hx
    · exact h.low p hp x hx
  refine ⟨⟨nv, xv, bv, .slice none 0 0, .slice (some ⟨kb, 0, none⟩) 1 1, .slice none 0 0⟩, ps, h.ln, ⟨h.blk, h.nrow.mono (Nat.zero_le _), h.xrow.mono (Nat.zero_le _), ?_, ownM_nil _ _ _, ⟨[⟨⟨0, [], []⟩, .slice none 0 0, .slice none 0 0⟩], rfl, ⟨rfl, .inr ⟨kb, 1, _, rfl, Nat.zero_le _, h.kbk, Nat.le_refl _, by decide, rfl, rfl⟩⟩, fun y hy => ?_⟩, cmdR_nil _ _, ?_, ?_, fun _ _ _ hx => by cases hx⟩, ?_, ⟨h.gr.os, h.gr.tape, h.gr.output, h.gr.size, fun b hb _ => h.gr.block b hb, fun x hx => .inl (hlow x hx)⟩⟩
  · rw [show (Wd.fresh0 i : Wd C).births.map numV = List.replicate i (numV 0) by simp [Wd.fresh0]]
    exact h.brow.mono (Nat.zero_le _)
  · rw [List.mem_singleton.1 hy]
    exact ⟨rowR_nil _ _ _ _, rowR_nil _ _ _ _, by simp, by simp⟩
  · exact h.nds.mono (fun x hx => hx.elim) (fun p hp x hx hP => hx (fw_node hp hP))
  · rw [h.ln]; simp [Wd.fresh0]
  · refine ⟨fun b hb => ?_, fun d hd => ?_, fun x hx => (List.not_mem_nil hx).elim, by simp [Wd.fresh0], fun x hx => (List.not_mem_nil hx).elim, by simp [Wd.fresh0], fun c hc => ?_, by simp [Wd.fresh0], by simp [Wd.fresh0], fun n hn => ?_⟩
    · have : b = Box.new := List.eq_of_mem_replicate hb
      rw [this]; exact ⟨Nat.le_refl _, Nat.le_refl _⟩
    · obtain ⟨j, _, rfl⟩ := List.mem_map.1 hd
      exact Nat.le_refl _
    · rw [List.mem_singleton.1 hc]
      exact ⟨⟨by decide, by simp, .inl rfl, by simp, by simp, by simp, List.Pairwise.nil, by simp, by simp⟩, Nat.le_refl _⟩
    · have : n = 0 := List.eq_of_mem_replicate hn
      rw [this]; decide
theorem snoc_get {α : Type} {l : List α} {a x : α} {j : Nat} (h : (l ++ [a])[j]? = some x) : l[j]? = some x ∨ (j = l.length ∧ x = a) := by
  by_cases hj : j < l.length
  · rw [List.getElem?_append_left hj] at h; exact .inl h
  · rw [List.getElem?_append_right (by omega)] at h
    have hj0 : j - l.length = 0 := by
      have := (List.getElem?_eq_some_iff.1 h).1
      simp at this; omega
    rw [hj0] at h
    exact .inr ⟨by omega, by simpa using h.symm⟩
theorem NdsAt.snoc {N : Nat → Prop} {nds : List Nd} {boxes : List (Box C)} (h : NdsAt f N w ps nds boxes) {p : Pl} {d : Nd} {b : Box C} (hn : NdAt f N w p.nb p.bb p.cv p.cfv p.sv d b) (hd : ∀ q ∈ ps, ∀ x, FP q x → ¬ FP p x) : NdsAt f N w (ps ++ [p]) (nds ++ [d]) (boxes ++ [b]) := by
  have h1 := h.ln
  have h2 := h.lb
  refine ⟨by simp [h1], by simp [h2], fun i q d' b' e1 e2 e3 => ?_, fun i j q r x e1 e2 hij hx hy => ?_⟩
  · rcases snoc_get e1 with e1 | ⟨i1, rfl⟩
    · have hl := (List.getElem?_eq_some_iff.1 e1).1
      rcases snoc_get e2 with e2 | ⟨i2, _⟩
      · rcases snoc_get e3 with e3 | ⟨i3, _⟩
        · exact h.nd i q d' b' e1 e2 e3
        · omega
      · omega
    · rcases snoc_get e2 with e2 | ⟨i2, rfl⟩
      · have := (List.getElem?_eq_some_iff.1 e2).1; omega
      · rcases snoc_get e3 with e3 | ⟨i3, rfl⟩
        · have := (List.getElem?_eq_some_iff.1 e3).1; omega
        · exact hn
  · rcases snoc_get e1 with a1 | ⟨i1, a1⟩
    · rcases snoc_get e2 with a2 | ⟨i2, a2⟩
      · exact h.dis i j q r x a1 a2 hij hx hy
      · rw [a2] at hy; exact hd q (List.mem_of_getElem? a1) x hx hy
    · rcases snoc_get e2 with a2 | ⟨i2, a2⟩
      · rw [a1] at hx; exact hd r (List.mem_of_getElem? a2) x hy hx
      · omega
theorem row1_ty {w w' : World} {e : TypeId} {B : Nat} {v : Value} {xs : List Value} (h : Row1 e B w v xs) (hk : ∀ (g : Nat) (cur : Array Value) (q : TypeId) (p : Nat × Nat), w.heap[g]? = some (Obj.cells cur q p) → q = e → w'.heap[g]? = some (Obj.cells cur q p)) : Row1 e B w' v xs :=
  h.keep fun g hg => by
    obtain ⟨cur, hc⟩ := h.block hg
    rw [hk g cur _ _ hc rfl, hc]
set_option maxRecDepth 100000 in
set_option maxHeartbeats 4000000 in
theorem begun_any {M : Nat} (hM : M ≤ 16) : Calls Try.prog 8 #[.int .i64 (M : Int)] w fun e w' => ∃ wb, e = .returned (.pointer (some ⟨wb, 0, none⟩)) ∧ Wt f (fun x => w.heap.size ≤ x) w wb M 0 0 (Wd.fresh0 M : Wd C) w' := by
  go_enter Try.func8, Try.ntmps8
  go_upto_region 2 with fail
  obtain ⟨kb, hkb⟩ : ∃ q, q = w.heap.size := ⟨_, rfl⟩
  obtain ⟨wb, hwb⟩ : ∃ q, q = w.heap.size + 1 := ⟨_, rfl⟩
  have hg1 : Grow w ((w.alloc (.cells #[.int .i64 0, .slice none 0 0, .slice none 0 0] 59)).alloc (.cells #[.slice none 0 0, .slice none 0 0, .slice none 0 0, .slice none 0 0, .slice (some ⟨w.heap.size, 0, none⟩) 1 1, .slice none 0 0, .bool false] 44)) := (Grow.alloc _ _).trans (Grow.alloc _ _)
  have hb0 := (Grow.alloc (w.alloc (.cells #[.int .i64 0, .slice none 0 0, .slice none 0 0] 59)) (.cells #[.slice none 0 0, .slice none 0 0, .slice none 0 0, .slice none 0 0, .slice (some ⟨w.heap.size, 0, none⟩) 1 1, .slice none 0 0, .bool false] 44)).heap (heap_alloc_new w (.cells #[.int .i64 0, .slice none 0 0, .slice none 0 0] 59))
  have hb1 := heap_alloc_new (w.alloc (.cells #[.int .i64 0, .slice none 0 0, .slice none 0 0] 59)) (.cells #[.slice none 0 0, .slice none 0 0, .slice none 0 0, .slice none 0 0, .slice (some ⟨w.heap.size, 0, none⟩) 1 1, .slice none 0 0, .bool false] 44)
  rw [show (w.alloc (.cells #[.int .i64 0, .slice none 0 0, .slice none 0 0] 59)).heap.size = w.heap.size + 1 by simp, ← hwb] at hb1
  rw [← hwb]
  rw [← hkb] at hb0 hb1 hg1 ⊢
  generalize (w.alloc (.cells #[.int .i64 0, .slice none 0 0, .slice none 0 0] 59)).alloc (.cells #[.slice none 0 0, .slice none 0 0, .slice none 0 0, .slice none 0 0, .slice (some ⟨kb, 0, none⟩) 1 1, .slice none 0 0, .bool false] 44) = w1 at *
  have Hst : Hid (BegI f w w1 wb kb (.slice none 0 0) (.slice none 0 0) (.slice none 0 0) [] 0) := Lib.hid ⟨rfl, hg1, by omega, by omega, hb1, hb0, row1_nil _ _ _, row1_nil _ _ _, row1_nil _ _ _, ⟨rfl, rfl, fun i p d b h => by simp at h, fun i j p q x h => by simp at h⟩, fun p hp => by cases hp⟩
  clear hg1 hb0 hb1 hkb hwb
  go_wp2_with fail
  go_loopw [4] (fun iv wr => ∃ (i : Nat) (nv xv bv : Value) (ps : List Pl), iv = .int .i64 i ∧ i ≤ M ∧ BegI f w wr wb kb nv xv bv ps i) (fun iv _ => M - (intOf iv).toNat)
  case atStart => exact ⟨0, _, _, _, _, rfl, Nat.zero_le _, Hst.out⟩
  case round =>
    clear Hst
    obtain ⟨i, nv, xv, bv, ps, rfl, hi, hI⟩ := hrel
    have HI := Lib.hid hI
    by_cases hlt : i < M
    · have hi1 : (i : Int) < (M : Int) := by omega
      have hga : Grow wr (wr.alloc (.cells #[.slice none 0 0, .int .u64 0, .int .i64 0, .bool false, .bool false] 47)) := Grow.alloc _ _
      have hba := heap_alloc_new wr (.cells #[.slice none 0 0, .int .u64 0, .int .i64 0, .bool false, .bool false] 47)
      have hbx : BxAt f (fun _ => False) (wr.alloc (.cells #[.slice none 0 0, .int .u64 0, .int .i64 0, .bool false, .bool false] 47)) wr.heap.size (.slice none 0 0) (Box.new : Box C) := ⟨hba, cmdR_nil _ _, fun x hx => hx.elim, by simp [Box.new], Nat.le_refl _, Nat.zero_le _⟩
      have Hnew : Hid (Calls Try.prog 22 #[.int .i64 (i : Int), .int .i64 0, .iface 48 (.pointer (some ⟨wr.heap.size, 0, none⟩))] (wr.alloc (.cells #[.slice none 0 0, .int .u64 0, .int .i64 0, .bool false, .bool false] 47)) fun e w' => e = .returned (.pointer (some ⟨(wr.alloc (.cells #[.slice none 0 0, .int .u64 0, .int .i64 0, .bool false, .bool false] 47)).heap.size, 0, none⟩)) ∧ NdAt f (fun _ => False) w' (wr.alloc (.cells #[.slice none 0 0, .int .u64 0, .int .i64 0, .bool false, .bool false] 47)).heap.size wr.heap.size (.slice none 0 0) (.slice none 0 0) (.slice none 0 0) (newD i 0) (Box.new : Box C) ∧ Grow (wr.alloc (.cells #[.slice none 0 0, .int .u64 0, .int .i64 0, .bool false, .bool false] 47)) w') := Lib.hid (new_any i 0 (by omega) (by omega) hbx (fun x hx => hx.elim))
      obtain ⟨bb, hbb⟩ : ∃ q, q = wr.heap.size := ⟨_, rfl⟩
      have Hbb := Lib.hid hbb
      have Hga := Lib.hid hga
      clear hI hba hbx hga
      go_upto_region 6 with fail
      rw [← hbb] at Hnew ⊢
      clear hbb
      generalize wr.alloc (.cells #[.slice none 0 0, .int .u64 0, .int .i64 0, .bool false, .bool false] 47) = w2 at *
      go_wp2_with fail
      (with_reducible refine Hnew.out.mono ?_)
      rintro e w3 ⟨rfl, hnd, hg3⟩
      obtain ⟨nb, hnb⟩ : ∃ q, q = w2.heap.size := ⟨_, rfl⟩
      rw [← hnb] at hnd ⊢
      have hgr : Grow wr w3 := Hga.out.trans hg3
      have hI := HI.out
      have n3 := hI.nrow.grow hgr
      have x3 := hI.xrow.grow hgr
      have b3 := hI.brow.grow hgr
      have k3 := hgr.heap hI.blk
      have kk3 := hgr.heap hI.kbk
      have hil := hI.ln
      obtain ⟨v1, w4, r1, q1, q2, q3, ⟨va1, vc1, rfl⟩, n4, k4, t4, hb4⟩ := beg_push (t := 38) Try.underlying38 Try.infoPN rfl (by decide) n3 (u := .pointer (some ⟨nb, 0, none⟩)) rfl (by simp; omega) k3 (j := 0) rfl (by decide) hI.wbl
      have x4 := row1_ty x3 (w' := w4.setCell ⟨wb, 0, none⟩ (.slice va1 ((ps.map ptrN).length + 1) vc1)) (fun g cur q p hg hq => t4 g cur q p hg (by rw [hq]; decide) (by rw [hq] at hg; exact ty_ne2 hg k3 (by decide)))
      have b4 := row1_ty b3 (w' := w4.setCell ⟨wb, 0, none⟩ (.slice va1 ((ps.map ptrN).length + 1) vc1)) (fun g cur q p hg hq => t4 g cur q p hg (by rw [hq]; decide) (by rw [hq] at hg; exact ty_ne2 hg k3 (by decide)))
      obtain ⟨v2, w5, r2, p1, p2, p3, ⟨va2, vc2, rfl⟩, x5, k5, t5, hb5⟩ := beg_push (t := 39) Try.underlying39 Try.infoPX rfl (by decide) x4 (u := .pointer (some ⟨bb, 0, none⟩)) rfl (by simp; omega) k4 (j := 1) (by simp) (by decide) hI.wbl
      obtain ⟨wA, hwA⟩ : ∃ W, W = w4.setCell ⟨wb, 0, none⟩ (.slice va1 ((ps.map ptrN).length + 1) vc1) := ⟨_, rfl⟩
      rw [← hwA] at n4 x4 b4 r2 t4 t5 hb4 hb5 k4
      have n5 := row1_ty n4 (w' := w5.setCell ⟨wb, 1, none⟩ (.slice va2 ((ps.map ptrX).length + 1) vc2)) (fun g cur q p hg hq => t5 g cur q p hg (by rw [hq]; decide) (by rw [hq] at hg; exact ty_ne2 hg k4 (by decide)))
      have b5 := row1_ty b4 (w' := w5.setCell ⟨wb, 1, none⟩ (.slice va2 ((ps.map ptrX).length + 1) vc2)) (fun g cur q p hg hq => t5 g cur q p hg (by rw [hq]; decide) (by rw [hq] at hg; exact ty_ne2 hg k4 (by decide)))
      obtain ⟨v3, w6, r3, s1, s2, s3, ⟨va3, vc3, rfl⟩, b6, k6, t6, hb6⟩ := beg_push (t := 40) Try.underlying40 Try.infoInt rfl (by decide) b5 (u := numV 0) rfl (by simp; omega) k5 (j := 2) (by simp) (by decide) hI.wbl
      obtain ⟨wB, hwB⟩ : ∃ W, W = w5.setCell ⟨wb, 1, none⟩ (.slice va2 ((ps.map ptrX).length + 1) vc2) := ⟨_, rfl⟩
      rw [← hwB] at n5 x5 b5 r3 t5 t6 hb5 hb6 k5
      have n6 := row1_ty n5 (w' := w6.setCell ⟨wb, 2, none⟩ (.slice va3 ((List.replicate i (numV 0)).length + 1) vc3)) (fun g cur q p hg hq => t6 g cur q p hg (by rw [hq]; decide) (by rw [hq] at hg; exact ty_ne2 hg k5 (by decide)))
      have x6 := row1_ty x5 (w' := w6.setCell ⟨wb, 2, none⟩ (.slice va3 ((List.replicate i (numV 0)).length + 1) vc3)) (fun g cur q p hg hq => t6 g cur q p hg (by rw [hq]; decide) (by rw [hq] at hg; exact ty_ne2 hg k5 (by decide)))
      obtain ⟨wC, hwC⟩ : ∃ W, W = w6.setCell ⟨wb, 2, none⟩ (.slice va3 ((List.replicate i (numV 0)).length + 1) vc3) := ⟨_, rfl⟩
      rw [← hwC] at n6 x6 b6 t6 hb6 k6
      have hkeep : ∀ (g : Nat) (cur : Array Value) (q : TypeId), w3.heap[g]? = some (Obj.cells cur q (0, 0)) → q ≠ 50 → q ≠ 48 → q ≠ 3 → q ≠ 44 → wC.heap[g]? = some (Obj.cells cur q (0, 0)) := fun g cur q hg h1 h2 h3 h4 => by
        have hne : g ≠ wb := ty_ne2 hg k3 h4
        exact t6 g cur q _ (t5 g cur q _ (t4 g cur q _ hg h1 hne) h2 hne) h3 hne
      have hsz3 : w3.heap.size ≤ wC.heap.size := Nat.le_trans hb4.size (Nat.le_trans hb5.size hb6.size)
      have hkp : ∀ (P : Nat → Prop), (∀ x, ¬ P x) → Kp P w3 wC := fun P hP => ⟨hsz3, fun b hb => absurd hb (hP b)⟩
      have hFN : ∀ {nb bb : Nat} {cv cfv sv : Value} {d : Nd} {b : Box C}, NdAt f (fun _ => False) w3 nb bb cv cfv sv d b → NdAt f (fun _ => False) wC nb bb cv cfv sv d b := fun h => h.kp (hkp _ (fun _ h => h)) (fun x hx => by
        obtain ⟨cur, t, hc, ht⟩ := h.ty hx
        rw [hc]
        exact hkeep x cur t hc (by rcases ht with rfl | rfl | rfl <;> decide) (by rcases ht with rfl | rfl | rfl <;> decide) (by rcases ht with rfl | rfl | rfl <;> decide) (by rcases ht with rfl | rfl | rfl <;> decide))
      have hnds3 := hI.nds.kp (w' := w3) (Kp.ofGrow hgr) (fun p hp x hx => hgr.block x (hI.nds.lt hp hx))
      have hndsC : NdsAt f (fun _ => False) wC ps ((List.range i).map fun j => newD j 0) (List.replicate i (Box.new : Box C)) := ⟨hnds3.ln, hnds3.lb, fun j p d b e1 e2 e3 => hFN (hnds3.nd j p d b e1 e2 e3), hnds3.dis⟩
      have hsn := hndsC.snoc (p := ⟨nb, bb, .slice none 0 0, .slice none 0 0, .slice none 0 0⟩) (hFN hnd) (fun q hq x hx hy => by
        have h1 := hI.nds.lt hq hx
        rcases hy with h2 | h2 | h2
        · have := Hga.out.size; have h3 : x = nb := h2; omega
        · have h3 : x = bb := h2; have := Hbb.out; omega
        · cases h2)
      have hnbw : w.heap.size ≤ nb := by have := hI.gr.size; have := Hga.out.size; omega
      have hbbw : w.heap.size ≤ bb := by have := hI.gr.size; have := Hbb.out; omega
      have hnew : BegI f w wC wb kb (.slice va1 ((ps.map ptrN).length + 1) vc1) (.slice va2 ((ps.map ptrX).length + 1) vc2) (.slice va3 ((List.replicate i (numV 0)).length + 1) vc3) (ps ++ [⟨nb, bb, .slice none 0 0, .slice none 0 0, .slice none 0 0⟩]) (i + 1) := by
        refine ⟨by simp [hil], ?_, hI.wbl, hI.kbl, by simpa using k6, hkeep _ _ _ kk3 (by decide) (by decide) (by decide) (by decide), by simpa using n6, by simpa using x6, by rw [List.replicate_succ']; exact b6, ?_, fun p hp x hx => ?_⟩
        · exact (Below.trans (Below.trans (Below.trans (hI.gr.trans hgr) hb4) hb5) hb6)
        · rw [List.range_succ, List.map_append, List.replicate_succ']
          exact hsn
        · rcases List.mem_append.1 hp with hp | hp
          · exact hI.low p hp x hx
          · rw [List.mem_singleton.1 hp] at hx
            rcases hx with h2 | h2 | h2
            · have h3 : x = nb := h2; omega
            · have h3 : x = bb := h2; omega
            · cases h2
      have Hnew2 := Lib.hid hnew
      have lw3 := lt_of_getElem? k3
      have c3 : w3.cell? ⟨wb, 0, none⟩ = some nv := by simp [World.cell?, k3]
      have lwA := lt_of_getElem? k4
      have cA : wA.cell? ⟨wb, 1, none⟩ = some xv := by simp [World.cell?, k4]
      have lwB := lt_of_getElem? k5
      have cB : wB.cell? ⟨wb, 2, none⟩ = some bv := by simp [World.cell?, k5]
      obtain ⟨nva, nvc, hnv⟩ := n3.slice
      obtain ⟨xva, xvc, hxv⟩ := x3.slice
      obtain ⟨bva, bvc, hbv⟩ := b3.slice
      rw [List.length_map] at hnv hxv
      rw [List.length_replicate] at hbv
      rw [hnv] at c3 r1 q2
      rw [hxv] at cA r2 p2
      rw [hbv] at cB r3 s2
      clear hnew hsn hndsC hnds3 hFN hkp hkeep hsz3 hnbw hbbw hI hgr hnd hg3 n3 x3 b3 k3 kk3 n4 k4 t4 hb4 x4 b4 x5 k5 t5 hb5 n5 b5 b6 k6 t6 hb6 n6 x6 hil hnv hxv hbv HI Hnew Hga
      generalize (ps.map ptrN).length + 1 = L1 at *
      generalize (ps.map ptrX).length + 1 = L2 at *
      generalize (List.replicate i (numV 0)).length + 1 = L3 at *
      have R1 := Lib.hid r1
      have R2 := Lib.hid r2
      have R3 := Lib.hid r3
      have HA := Lib.hid hwA
      have HB := Lib.hid hwB
      have HC := Lib.hid hwC
      clear r1 r2 r3 hwA hwB hwC hnb
      go_upto_region 10 with (at_builtin; refine wpList_append rfl rfl rfl rfl R1.out ?_)
      rw [← HA.out]
      clear c3 lw3 q1 q2 q3
      go_upto_region 11 with (at_builtin; refine wpList_append rfl rfl rfl rfl R2.out ?_)
      rw [← HB.out]
      clear cA lwA p1 p2 p3
      go_upto_region 4 with (at_builtin; refine wpList_append rfl rfl rfl rfl R3.out ?_)
      rw [← HC.out]
      clear cB lwB s1 s2 s3
      go_wp2
      go_roundw
      case rel => exact ⟨i + 1, _, _, _, _, by simp, hlt, Hnew2.out⟩
      case measure => simp [intOf]; omega
    · have hiM : M = i := by omega
      subst hiM
      clear hlt hI hi
      go_wp2
      go_ret
      exact ⟨wb, rfl, HI.out.wat⟩
end
end Go.Proofs.Ytfchjoejdijjeaa
