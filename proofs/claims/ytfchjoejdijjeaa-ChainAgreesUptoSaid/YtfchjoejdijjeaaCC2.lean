/- Merged out of GC, GD, GE, GF: helpers. -/
import Derived.Test.YtfchjoejdijjeaaCB2
set_option linter.unusedSimpArgs false
set_option linter.unusedVariables false
/- The law's world: a node begins anew, as memory has it. -/
namespace Go.Proofs.Ytfchjoejdijjeaa
open Go.RowKit Go.Gl Go.Wal Go.Ch Go.Shelf
section
variable {C : Type} {f : C → List UInt8} {N : Nat → Prop} {w : World} {wb gn gx gb gnc gxc gbc P i bi bb : Nat} {cv u0 : Value} {cur : Array Value} {b : Box C}
/-- What anew leaves. -/
def AnewPost (f : C → List UInt8) (N : Nat → Prop) (w : World) (gn i bi bb : Nat) (cv : Value) (b : Box C) (e : Ending) (w' : World) : Prop :=
  e = .returned (.tuple #[]) ∧ ∃ w3 nb, Grow w w3 ∧ w.heap.size ≤ nb ∧ NdAt f N w3 nb bb cv (.slice none 0 0) (.slice none 0 0) (newD i bi) b ∧ w' = w3.setCell ⟨gn, i, none⟩ (.pointer (some ⟨nb, 0, none⟩))
set_option maxRecDepth 100000 in
set_option maxHeartbeats 4000000 in
theorem wanew_any (hw : wb < w.heap.size) (n0 : w.cell? ⟨wb, 0, none⟩ = some (.slice (some ⟨gn, 0, none⟩) P gnc)) (n1 : w.cell? ⟨wb, 1, none⟩ = some (.slice (some ⟨gx, 0, none⟩) P gxc)) (n2 : w.cell? ⟨wb, 2, none⟩ = some (.slice (some ⟨gb, 0, none⟩) P gbc))
    (hi : i < P) (hP : P ≤ 16) (hgx : gx < w.heap.size) (hgb : gb < w.heap.size) (hx : w.cell? ⟨gx, i, none⟩ = some (.pointer (some ⟨bb, 0, none⟩))) (hb : w.cell? ⟨gb, i, none⟩ = some (.int .i64 (bi : Int))) (hgn : w.heap[gn]? = some (.cells cur 50 (0, 0))) (hn : w.cell? ⟨gn, i, none⟩ = some u0)
    (hbi : bi ≤ 1000000000) (hbox : BxAt f N w bb cv b) (hN : ∀ x, N x → x < w.heap.size) :
    Calls Try.prog 23 #[.pointer (some ⟨wb, 0, none⟩), .int .i64 (i : Int)] w (AnewPost f N w gn i bi bb cv b) := by
  have hg := Grow.drew w
  have hwl := Nat.lt_of_lt_of_le hw hg.size
  have hxl := Nat.lt_of_lt_of_le hgx hg.size
  have hbl := Nat.lt_of_lt_of_le hgb hg.size
  have hgl := lt_of_getElem? hgn
  have hnl := Nat.lt_of_lt_of_le hgl hg.size
  have m0 := (hg.cell hw).trans n0
  have m1 := (hg.cell hw).trans n1
  have m2 := (hg.cell hw).trans n2
  have mx := (hg.cell hgx).trans hx
  have mb := (hg.cell hgb).trans hb
  have mn := (hg.cell hgl).trans hn
  have Hgn := Lib.hid (hg.heap hgn)
  have Hnew := Lib.hid (new_any i bi (by omega) hbi (hbox.grow hg) (fun x hx => Nat.lt_of_lt_of_le (hN x hx) hg.size))
  have Hg := Lib.hid hg
  have hi1 : (i : Int) < (P : Int) := by omega
  clear n0 n1 n2 hx hb hgn hn hbox hN hg hw hgx hgb hgl
  go_enter Try.func23, Try.ntmps23
  refine wp_region_late (fun Wx => wb < Wx.heap.size ∧ gx < Wx.heap.size ∧ gb < Wx.heap.size ∧ Wx.cell? ⟨wb, 0, none⟩ = some (.slice (some ⟨gn, 0, none⟩) P gnc) ∧ Wx.cell? ⟨wb, 1, none⟩ = some (.slice (some ⟨gx, 0, none⟩) P gxc) ∧ Wx.cell? ⟨wb, 2, none⟩ = some (.slice (some ⟨gb, 0, none⟩) P gbc) ∧ Wx.cell? ⟨gx, i, none⟩ = some (.pointer (some ⟨bb, 0, none⟩)) ∧ Wx.cell? ⟨gb, i, none⟩ = some (.int .i64 (bi : Int))) [(0, false), (1, false), (2, false), (3, false), (4, false), (5, false), (6, false), (7, false), (8, false), (9, false), (10, false), (11, false), (12, false), (13, false), (14, false), (15, false), (16, false), (17, false), (18, false), (19, false), (20, false), (21, true), (22, false)] [23] #[true, true, true, true, true, true, true, true, true, true, true, true, true, true, true, true, true, true, true, true, true, true, true, false] 1 (by kernel_rfl) (by kernel_rfl) (fun c a d v w h => by cases d <;> exact h) ⟨hwl, hxl, hbl, m0, m1, m2, mx, mb⟩ ?_
  obtain ⟨sz, hsz⟩ : ∃ n, w.drew.heap.size = n := ⟨_, rfl⟩
  have Hsz := Lib.hid hsz
  rw [hsz] at Hnew
  generalize w.drew = w2 at *
  simp only [arrange, nth]
  repeat ((first | (apply wpPi_quiet; rfl; rintro W ⟨hW0, hW1, hW2, hW3, hW4, hW5, hW6, hW7⟩; go_simp; with_reducible rfl) | (apply wpPi_off; rfl)); simp only [putA, List.set])
  refine wpPi_call (by rfl) (by go_simp) Hnew.out ?_
  rintro e w3 ⟨rfl, hnd, hg3⟩
  refine ⟨_, rfl, ⟨Nat.lt_of_lt_of_le hwl hg3.size, Nat.lt_of_lt_of_le hxl hg3.size, Nat.lt_of_lt_of_le hbl hg3.size, (hg3.cell hwl).trans m0, (hg3.cell hwl).trans m1, (hg3.cell hwl).trans m2, (hg3.cell hxl).trans mx, (hg3.cell hbl).trans mb⟩, ?_⟩
  have hgn3 := hg3.heap Hgn.out
  have c3 := (hg3.cell hnl).trans mn
  have f3 := frz hgn3 i
  have l3 := lt_of_getElem? hgn3
  have hszw : w.heap.size ≤ sz := by rw [← Hsz.out]; exact Hg.out.size
  have Hpost : Hid (AnewPost f N w gn i bi bb cv b (.returned (.tuple #[])) (w3.setCell ⟨gn, i, none⟩ (.pointer (some ⟨sz, 0, none⟩)))) := Lib.hid ⟨rfl, w3, sz, Hg.out.trans hg3, hszw, hnd, rfl⟩
  clear hnd hg3 m0 m1 m2 mx mb mn hwl hxl hbl hnl hgn3 hszw
  try first | simp only [putA, List.set] | simp only [putN]
  repeat ((first | (apply wpPi_quiet; rfl; rintro W ⟨hW0, hW1, hW2, hW3, hW4, hW5, hW6, hW7⟩; go_simp; with_reducible rfl) | (apply wpPi_off; rfl)); simp only [putA, List.set])
  refine wpPi_nil ?_
  refine lateQ_act (i := 23) (by kernel_rfl) rfl (by rfl) (fun K hK => ?_)
  go_simp
  refine hK _ _ ?_
  clear hK K
  try first | simp only [putA, List.set] | simp only [putN]
  refine lateQ_nil (by kernel_rfl) ?_
  go_wp2
  exact ⟨rfl, .tuple #[], by simp [results, Try.results23, go_sem], Hpost.out⟩
end
end Go.Proofs.Ytfchjoejdijjeaa

/- The law's world: a node, a box, a birth are new. -/
namespace Go.Gl
open Go Go.RowKit
/-- An element of a row is stored into. -/
theorem Row1.put {e : TypeId} {B : Nat} {w : World} {v : Value} {xs : List Value} (h : Row1 e B w v xs) {g : Nat} (hg : v.ownBlock = some g) (i : Nat) (u : Value) : Row1 e B (w.setCell ⟨g, i, none⟩ u) v (xs.set i u) := by
  rcases h with ⟨rfl, rfl⟩ | ⟨g', cap, cur, rfl, hB, hb, h1, h2, h3, h4⟩
  · cases hg
  · cases hg
    have hs := setCell_heap hb i u
    refine .inr ⟨g', cap, _, by rw [List.length_set], hB, hs, by rw [List.length_set]; exact h1, by simpa using h2, h3, ?_⟩
    rw [List.length_set, Array.toList_setIfInBounds, List.take_set, h4]
end Go.Gl
namespace Go.Proofs.Ytfchjoejdijjeaa
open Go.RowKit Go.Gl Go.Wal Go.Ch Go.Shelf
section
variable {C : Type} {f : C → List UInt8} {w w' : World} {wb : Nat} {V : Vs} {ps : List Pl} {W : Wd C}
theorem WAt.renew (h : WAt f w wb V ps W) {i : Nat} {p q : Pl} (hp : ps[i]? = some p) {d' : Nd} {b' : Box C} {births' : List Nat}
    (hsz : w.heap.size ≤ w'.heap.size) (hk : ∀ x, x < w.heap.size → V.nv.ownBlock ≠ some x → V.xv.ownBlock ≠ some x → V.bv.ownBlock ≠ some x → w'.heap[x]? = w.heap[x]?)
    (hn : Row1 50 0 w' V.nv ((ps.set i q).map ptrN)) (hxr : Row1 48 0 w' V.xv ((ps.set i q).map ptrX)) (hb : Row1 3 0 w' V.bv (births'.map numV)) (hl : births'.length = ps.length)
    (hq : ∀ x, FP q x → FP p x ∨ w.heap.size ≤ x) (hd : NdAt f (NW wb V (ps.set i q)) w' q.nb q.bb q.cv q.cfv q.sv d' b') (hap : ∀ x, V.rv.ownBlock = some x → ¬ FP q x) :
    WAt f w' wb V (ps.set i q) { W with nds := W.nds.set i d', boxes := W.boxes.set i b', births := births' } ∧ (∀ x, FW wb V (ps.set i q) x → FW wb V ps x ∨ w.heap.size ≤ x) := by
  have hpm := List.mem_of_getElem? hp
  have hil := (List.getElem?_eq_some_iff.1 hp).1
  have nd := h.nds
  have hF : ∀ x, FW wb V (ps.set i q) x → FW wb V ps x ∨ w.heap.size ≤ x := fun x hx => by
    rcases hx with rfl | hx | hx | hx | hx | hx | hx | ⟨r, hr, hx⟩
    · exact .inl (.inl rfl)
    · exact .inl (.inr (.inl hx))
    · exact .inl (.inr (.inr (.inl hx)))
    · exact .inl (.inr (.inr (.inr (.inl hx))))
    · exact .inl (.inr (.inr (.inr (.inr (.inl hx)))))
    · exact .inl (.inr (.inr (.inr (.inr (.inr (.inl hx))))))
    · exact .inl (.inr (.inr (.inr (.inr (.inr (.inr (.inl hx)))))))
    · rcases List.mem_or_eq_of_mem_set hr with hr | hr
      · exact .inl (fw_node hr hx)
      · rw [hr] at hx; exact (hq x hx).imp (fun h1 => fw_node hpm h1) id
  have hty : ∀ {g : Nat} {cur : Array Value} {t : TypeId}, w.heap[g]? = some (.cells cur t (0, 0)) → t ≠ 50 → t ≠ 48 → t ≠ 3 → w'.heap[g]? = w.heap[g]? := fun {g cur t} hc a1 a2 a3 =>
    hk g (lt_of_getElem? hc) (h.nrow.apart hc a1) (h.xrow.apart hc a2) (h.brow.apart hc a3)
  have hold : ∀ x, x < w.heap.size → NW wb V ps x → NW wb V (ps.set i q) x := fun x hxl hxn hF' => by
    rcases hF x hF' with h3 | h3
    · exact hxn h3
    · omega
  have hkN : Kp (fun x => NW wb V ps x ∧ x < w.heap.size) w w' := ⟨hsz, fun b hb hl => hk b hl (fun e => hb.1 (.inr (.inl e))) (fun e => hb.1 (.inr (.inr (.inl e)))) (fun e => hb.1 (.inr (.inr (.inr (.inl e)))))⟩
  have m1 : ∀ b, NW wb V ps b → b < w.heap.size → NW wb V ps b ∧ b < w.heap.size := fun b h1 h2 => ⟨h1, h2⟩
  have m2 : ∀ b, (NW wb V ps b ∧ b < w.heap.size) → b < w'.heap.size → NW wb V (ps.set i q) b := fun b hb _ => hold b hb.2 hb.1
  refine ⟨⟨(hty h.blk (by decide) (by decide) (by decide)).trans h.blk, hn, hxr, hb, ?_, ?_, ?_, ?_, by rw [List.length_set]; exact hl, ?_⟩, hF⟩
  · exact ((h.bag.mono m1).kp hkN (fun g hg => by obtain ⟨_, _, _, hc⟩ := h.bag.lt hg; exact hty hc (by decide) (by decide) (by decide))).mono m2
  · exact ((h.cfgs.mono m1).kp hkN (fun g hg => by obtain ⟨_, _, hc⟩ := h.cfgs.lt hg; exact hty hc (by decide) (by decide) (by decide))).mono m2
  · exact ((h.row.mono m1).kp hkN (fun g hg => by obtain ⟨_, _, hc⟩ := h.row.lt hg; exact hty hc (by decide) (by decide) (by decide))).mono m2
  · have ap : ∀ r, r ∈ ps.set i q → ∀ x, NW wb V (ps.set i q) x → ¬ FP r x := fun r hr x hx hP => hx (fw_node hr hP)
    refine ⟨by simp [nd.ln], by simp [nd.lb], fun j r d b e1 e2 e3 => ?_, fun j l r s x e1 e2 hjl hx hy => ?_⟩
    · have hrm := List.mem_of_getElem? e1
      rw [List.getElem?_set] at e1 e2 e3
      by_cases hj : i = j
      · subst hj
        simp only [if_true, hil, show i < W.nds.length by rw [nd.ln]; exact hil, show i < W.boxes.length by rw [nd.lb]; exact hil] at e1 e2 e3
        cases e1; cases e2; cases e3
        exact hd
      · simp only [hj, if_false] at e1 e2 e3
        have hdj := nd.nd j r d b e1 e2 e3
        have hrm' := List.mem_of_getElem? e1
        exact ((hdj.mono m1 (fun x hx hP => hx.1 (fw_node hrm' hP))).kp hkN (fun x hx => by
          obtain ⟨cur, t, hc, ht⟩ := nd.ty hrm' (p := r) (x := x) hx
          exact hty hc (by rcases ht with rfl | rfl | rfl <;> decide) (by rcases ht with rfl | rfl | rfl <;> decide) (by rcases ht with rfl | rfl | rfl <;> decide))).mono m2 (ap r hrm)
    · rw [List.getElem?_set] at e1 e2
      have hcase : ∀ {a : Nat} {u : Pl}, i ≠ a → ps[a]? = some u → FP u x → FP q x → False := fun {a u} ha hu hxu hxp => by
        rcases hq x hxp with h5 | h5
        · exact nd.dis a i u p x hu hp (fun e => ha e.symm) hxu h5
        · have := nd.lt (List.mem_of_getElem? hu) hxu; omega
      by_cases hj : i = j
      · subst hj
        simp only [if_true, hil] at e1
        cases e1
        simp only [hjl, if_false] at e2
        exact hcase hjl e2 hy hx
      · simp only [hj, if_false] at e1
        by_cases hl : i = l
        · subst hl
          simp only [if_true, hil] at e2
          cases e2
          exact hcase hj e1 hx hy
        · simp only [hl, if_false] at e2
          exact nd.dis j l r s x e1 e2 hjl hx hy
  · intro r hr x hx hP
    rcases List.mem_or_eq_of_mem_set hr with hr | hr
    · exact h.rvx r hr x hx hP
    · rw [hr] at hP; exact hap x hx hP
end
end Go.Proofs.Ytfchjoejdijjeaa

/- The law's world: anew; a disk that is lost. -/
namespace Go.Gl
open Go Go.RowKit
theorem Row1.at {e : TypeId} {B : Nat} {w : World} {v : Value} {xs : List Value} (h : Row1 e B w v xs) {i : Nat} {u : Value} (hi : xs[i]? = some u) :
    ∃ g c cur, v = .slice (some ⟨g, 0, none⟩) xs.length c ∧ w.heap[g]? = some (.cells cur e (0, 0)) ∧ w.cell? ⟨g, i, none⟩ = some u ∧ g < w.heap.size := by
  rcases id h with ⟨_, e⟩ | ⟨g, cap, cur, e, hB, hg, hr⟩
  · rw [e] at hi; simp at hi
  · exact ⟨g, cap, cur, e, hg, h.cells (g := g) (by rw [e]; rfl) hi, lt_of_getElem? hg⟩
end Go.Gl
namespace Go.Proofs.Ytfchjoejdijjeaa
open Go.RowKit Go.Gl Go.Wal Go.Ch Go.Shelf
section
variable {C : Type} {f : C → List UInt8} {F0 : Nat → Prop} {w wr w' w2 : World} {wb P L K : Nat} {V : Vs} {ps : List Pl} {W : Wd C}
theorem cap_anew (h : Cap L K W) {i : Nat} : Cap L K (W.anew i) := by
  refine ⟨h.box, fun d hd => ?_, h.msg, h.bag, fun x hx => ?_, h.row, h.ep, h.cl, h.c0, h.bir⟩
  · rcases List.mem_or_eq_of_mem_set hd with hd | hd
    · exact h.nd d hd
    · rw [hd]; exact Nat.zero_le _
  · show x.dst < (W.nds.set i _).length
    rw [List.length_set]; exact h.dst x hx
/-- What stands in the rows at a node. -/
structure AtRow (w : World) (V : Vs) (n i : Nat) (p : Pl) (bi gn gx gb : Nat) : Prop where
  nv : ∃ c, V.nv = .slice (some ⟨gn, 0, none⟩) n c
  xv : ∃ c, V.xv = .slice (some ⟨gx, 0, none⟩) n c
  bv : ∃ c, V.bv = .slice (some ⟨gb, 0, none⟩) n c
  nh : ∃ cur, w.heap[gn]? = some (.cells cur 50 (0, 0))
  xh : ∃ cur, w.heap[gx]? = some (.cells cur 48 (0, 0))
  bh : ∃ cur, w.heap[gb]? = some (.cells cur 3 (0, 0))
  nc : w.cell? ⟨gn, i, none⟩ = some (ptrN p)
  xc : w.cell? ⟨gx, i, none⟩ = some (ptrX p)
  bc : w.cell? ⟨gb, i, none⟩ = some (numV bi)
theorem WAt.atRow (h : WAt f w wb V ps W) {i : Nat} (hi : i < ps.length) : ∃ p d b n gn gx gb, ps[i]? = some p ∧ W.nds[i]? = some d ∧ W.boxes[i]? = some b ∧ W.births[i]? = some n ∧ NdAt f (NW wb V ps) w p.nb p.bb p.cv p.cfv p.sv d b ∧ AtRow w V ps.length i p n gn gx gb := by
  obtain ⟨p, d, b, h1, h2, h3, h4⟩ := h.nds.get hi
  have hl := h.lr
  have e4 : W.births[i]? = some (W.births[i]'(by omega)) := by simp [show i < W.births.length by omega]
  obtain ⟨gn, c1, cur1, a1, a2, a3, a4⟩ := h.nrow.at (i := i) (u := ptrN p) (by rw [List.getElem?_map, h1]; rfl)
  obtain ⟨gx, c2, cur2, b1, b2, b3, b4⟩ := h.xrow.at (i := i) (u := ptrX p) (by rw [List.getElem?_map, h1]; rfl)
  obtain ⟨gb, c3, cur3, d1, d2, d3, d4⟩ := h.brow.at (i := i) (by rw [List.getElem?_map, e4]; rfl)
  rw [List.length_map] at a1 b1 d1
  rw [hl] at d1
  exact ⟨p, d, b, _, gn, gx, gb, h1, h2, h3, e4, h4, ⟨⟨c1, a1⟩, ⟨c2, b1⟩, ⟨c3, d1⟩, ⟨cur1, a2⟩, ⟨cur2, b2⟩, ⟨cur3, d2⟩, a3, b3, d3⟩⟩
/-- What anew leaves of the world, w2 being the world in which it was called. -/
theorem WAt.renewed (h : WAt f w wb V ps W) {i : Nat} {p : Pl} (hp : ps[i]? = some p) {gn n : Nat} (hnv : ∃ c, V.nv = .slice (some ⟨gn, 0, none⟩) n c) {bb' : Nat} {cv' : Value} {b' : Box C} {births' : List Nat} {bi : Nat} {e : Ending}
    (hos : w2.os = w.os) (htp : w2.tape = w.tape) (hout : w2.output = w.output) (hsz : w.heap.size ≤ w2.heap.size) (hk : ∀ x, x < w.heap.size → V.xv.ownBlock ≠ some x → V.bv.ownBlock ≠ some x → w2.heap[x]? = w.heap[x]?)
    (hxr : Row1 48 0 w2 V.xv ((ps.set i ⟨p.nb, bb', cv', p.cfv, p.sv⟩).map ptrX)) (hb : Row1 3 0 w2 V.bv (births'.map numV)) (hl : births'.length = ps.length)
    (hq : ∀ x, FB bb' cv' x → FB p.bb p.cv x ∨ w.heap.size ≤ x) (ha : AnewPost f (fun x => NW wb V ps x ∧ x < w.heap.size) w2 gn i bi bb' cv' b' e w') :
    e = .returned (.tuple #[]) ∧ ∃ ps', ps'.length = ps.length ∧ WAt f w' wb V ps' { W with nds := W.nds.set i (newD i bi), boxes := W.boxes.set i b', births := births' } ∧ Sep (FW wb V ps) w w' (FW wb V ps') := by
  obtain ⟨he, w3, nb, hg3, hnb, hnd, rfl⟩ := ha
  refine ⟨he, ?_⟩
  obtain ⟨c, hnv⟩ := hnv
  have hnb' : V.nv.ownBlock = some gn := by rw [hnv]; rfl
  obtain ⟨ncur, hgn⟩ := h.nrow.block hnb'
  have hgl := lt_of_getElem? hgn
  have hpm := List.mem_of_getElem? hp
  have hsz3 : w.heap.size ≤ w3.heap.size := Nat.le_trans hsz hg3.size
  have hgx : V.xv.ownBlock ≠ some gn := h.xrow.apart hgn (by decide)
  have hgb : V.bv.ownBlock ≠ some gn := h.brow.apart hgn (by decide)
  have hk3 : ∀ x, x < w.heap.size → V.xv.ownBlock ≠ some x → V.bv.ownBlock ≠ some x → w3.heap[x]? = w.heap[x]? := fun x hx h1 h2 => (hg3.block x (Nat.lt_of_lt_of_le hx hsz)).trans (hk x hx h1 h2)
  have hn3 : Row1 50 0 w3 V.nv (ps.map ptrN) := h.nrow.keep (fun g hg => by
    rw [hnb'] at hg; cases hg
    exact hk3 _ hgl hgx hgb)
  have hgn3 : w3.heap[gn]? = some (.cells ncur 50 (0, 0)) := (hk3 gn hgl hgx hgb).trans hgn
  have hxr3 := hxr.grow hg3
  have hb3 := hb.grow hg3
  have hx3 : V.xv.ownBlock ≠ some gn := hgx
  have hap : ∀ x, FP ⟨nb, bb', cv', .slice none 0 0, .slice none 0 0⟩ x → FP p x ∨ w.heap.size ≤ x := fun x hx => by
    rcases hx with rfl | hx
    · exact .inr (Nat.le_trans hsz hnb)
    · exact (hq x hx).imp .inr id
  have hset : ∀ (g : Pl → Value) (r s : Pl), g r = g s → (ps.set i r).map g = (ps.set i s).map g := fun g r s hg => by rw [List.map_set, List.map_set, hg]
  have hF : ∀ x, FW wb V (ps.set i ⟨nb, bb', cv', .slice none 0 0, .slice none 0 0⟩) x → FW wb V ps x ∨ w.heap.size ≤ x := fun x hx => by
    rcases hx with rfl | hx | hx | hx | hx | hx | hx | ⟨r, hr, hx⟩
    · exact .inl (.inl rfl)
    · exact .inl (.inr (.inl hx))
    · exact .inl (.inr (.inr (.inl hx)))
    · exact .inl (.inr (.inr (.inr (.inl hx))))
    · exact .inl (.inr (.inr (.inr (.inr (.inl hx)))))
    · exact .inl (.inr (.inr (.inr (.inr (.inr (.inl hx))))))
    · exact .inl (.inr (.inr (.inr (.inr (.inr (.inr (.inl hx)))))))
    · rcases List.mem_or_eq_of_mem_set hr with hr | hr
      · exact .inl (fw_node hr hx)
      · rw [hr] at hx; exact (hap x hx).imp (fun h1 => fw_node hpm h1) id
  have hty : 79 ≠ 50 ∧ 47 ≠ 50 ∧ 28 ≠ 50 := by decide
  have hnd4 : NdAt f (NW wb V (ps.set i ⟨nb, bb', cv', .slice none 0 0, .slice none 0 0⟩)) (w3.setCell ⟨gn, i, none⟩ (.pointer (some ⟨nb, 0, none⟩))) nb bb' cv' (.slice none 0 0) (.slice none 0 0) (newD i bi) b' := by
    refine (hnd.kp ⟨by simp, fun x hx hxl => Below.heap_setCell _ _ _ _ (fun e => hx.1 (.inr (.inl (by rw [hnb', e]))))⟩ (fun x hx => Below.heap_setCell _ _ _ _ (fun e => ?_))).mono (fun x hx _ hF' => ?_) (fun x hx hP => ?_)
    · obtain ⟨cur, t, hc, ht⟩ := hnd.ty hx
      rw [e, hgn3] at hc
      injection hc with hc
      injection hc with _ hc
      rcases ht with rfl | rfl | rfl
      · exact hty.1 hc.symm
      · exact hty.2.1 hc.symm
      · exact hty.2.2 hc.symm
    · rcases hF x hF' with h3 | h3
      · exact hx.1 h3
      · omega
    · exact hx (fw_node (p := ⟨nb, bb', cv', .slice none 0 0, .slice none 0 0⟩) (List.mem_of_getElem? (i := i) (by rw [List.getElem?_set]; simp [(List.getElem?_eq_some_iff.1 hp).1])) hP)
  obtain ⟨k1, k2⟩ := h.renew hp (q := ⟨nb, bb', cv', .slice none 0 0, .slice none 0 0⟩) (w' := w3.setCell ⟨gn, i, none⟩ (.pointer (some ⟨nb, 0, none⟩))) (d' := newD i bi) (b' := b') (births' := births') (by simpa using hsz3)
    (fun x hx h1 h2 h3 => (Below.heap_setCell _ _ _ _ (fun e => h1 (by rw [hnb', e]))).trans (hk3 x hx h2 h3))
    (by rw [List.map_set]; exact hn3.put hnb' i _)
    (by rw [hset ptrX ⟨nb, bb', cv', .slice none 0 0, .slice none 0 0⟩ ⟨p.nb, bb', cv', p.cfv, p.sv⟩ rfl]; exact hxr3.keep (fun g hg => Below.heap_setCell _ _ _ _ (fun e => hgx (by rw [hg, e]))))
    (hb3.keep (fun g hg => Below.heap_setCell _ _ _ _ (fun e => hgb (by rw [hg, e])))) hl hap hnd4
    (fun x hx hP => by
      rcases hap x hP with h5 | h5
      · exact h.rvx p hpm x hx h5
      · have := (h.row.lt hx).1; omega)
  refine ⟨_, by simp, k1, ⟨hg3.os.trans hos, hg3.tape.trans htp, hg3.output.trans hout, by simpa using hsz3, fun x hx hn => ?_, k2⟩⟩
  exact (Below.heap_setCell _ _ _ _ (fun e => hn (.inr (.inl (by rw [hnb', e]))))).trans (hk3 x hx (fun e => hn (.inr (.inr (.inl e)))) (fun e => hn (.inr (.inr (.inr (.inl e))))))
theorem Wt.anew (h : Wt f F0 w wb P L K W wr) (hP : P ≤ 16) {i : Nat} (hi : i < P) :
    Calls Try.prog 23 #[.pointer (some ⟨wb, 0, none⟩), .int .i64 (i : Int)] wr fun e w' => e = .returned (.tuple #[]) ∧ Wt f F0 w wb P L K (W.anew i) w' := by
  obtain ⟨V, ps, h1, h2, h3, h4⟩ := h
  obtain ⟨p, d, b, bi, gn, gx, gb, hp, hd, hb, hbi, hnd, hr⟩ := h2.atRow (i := i) (by omega)
  obtain ⟨c1, e1⟩ := hr.nv
  obtain ⟨c2, e2⟩ := hr.xv
  obtain ⟨c3, e3⟩ := hr.bv
  obtain ⟨cur1, a1⟩ := hr.nh
  obtain ⟨cur2, a2⟩ := hr.xh
  obtain ⟨cur3, a3⟩ := hr.bh
  obtain ⟨n0, n1, n2, _⟩ := h2.cells
  have hbb := h3.bir bi (List.mem_of_getElem? hbi)
  rw [e1, h1] at n0
  rw [e2, h1] at n1
  rw [e3, h1] at n2
  have hm := hnd.mono (M := fun x => NW wb V ps x ∧ x < wr.heap.size) (fun x a b => ⟨a, b⟩) (fun x hx hP => hx.1 (fw_node (List.mem_of_getElem? hp) hP))
  refine (wanew_any h2.wlt n0 n1 n2 hi hP (lt_of_getElem? a2) (lt_of_getElem? a3) hr.xc hr.bc a1 hr.nc (by omega) hm.box (fun x hx => hx.2)).mono ?_
  rintro e w' ha
  have hxs : (ps.set i ⟨p.nb, p.bb, p.cv, p.cfv, p.sv⟩).map ptrX = ps.map ptrX := by
    obtain ⟨hil, hpe⟩ := List.getElem?_eq_some_iff.1 hp
    rw [show (⟨p.nb, p.bb, p.cv, p.cfv, p.sv⟩ : Pl) = p from rfl, ← hpe, List.set_getElem_self]
  obtain ⟨he, ps', k1, k2, k3⟩ := h2.renewed hp hr.nv rfl rfl rfl (Nat.le_refl _) (fun _ _ _ _ => rfl) (hxs ▸ h2.xrow) h2.brow h2.lr (fun x hx => .inl hx) ha
  refine ⟨he, V, ps', k1.trans h1, ?_, cap_anew h3, h4.trans k3⟩
  have hbs : W.boxes.set i b = W.boxes := by
    obtain ⟨hil, hpe⟩ := List.getElem?_eq_some_iff.1 hb
    rw [← hpe, List.set_getElem_self]
  have hw : W.anew i = { W with nds := W.nds.set i (newD i bi), boxes := W.boxes.set i b, births := W.births } := by
    unfold Wd.anew
    rw [hbs, List.getD_eq_getElem?_getD, hbi]; rfl
  rw [hw]; exact k2
end
end Go.Proofs.Ytfchjoejdijjeaa

/- The law's world: a disk that is full or no more, a disk that is lost, messages lost or doubled: what memory tells ahead of each. -/
namespace Go.Proofs.Ytfchjoejdijjeaa
open Go.RowKit Go.Gl Go.Wal Go.Ch Go.Shelf
section
variable {C : Type} {f : C → List UInt8} {F0 : Nat → Prop} {w wr w' w2 : World} {wb P L K : Nat} {V : Vs} {ps : List Pl} {W : Wd C}
theorem cap_flip (h : Cap L K W) {i : Nat} (hi : i < W.boxes.length) : Cap L K (W.flip i) := by
  refine ⟨fun b hb => ?_, h.nd, h.msg, h.bag, h.dst, h.row, h.ep, h.cl, h.c0, h.bir⟩
  rcases List.mem_or_eq_of_mem_set hb with hb | hb
  · exact h.box b hb
  · have hx : W.boxes[i]? = some W.boxes[i] := by simp [hi]
    rw [hb, box_of hx]
    have := h.box (W.boxes[i]) (List.getElem_mem hi)
    exact this
theorem cap_lose (h : Cap L K W) {i : Nat} (hb : ∀ n ∈ W.births, n ≤ 999999) : Cap L K (W.lose i) := by
  refine ⟨fun b hb => ?_, fun d hd => ?_, h.msg, h.bag, fun x hx => ?_, h.row, h.ep, h.cl, h.c0, fun n hn => ?_⟩
  · rcases List.mem_or_eq_of_mem_set hb with hb | hb
    · exact h.box b hb
    · rw [hb]; exact ⟨Nat.zero_le _, Nat.le_refl _⟩
  · rcases List.mem_or_eq_of_mem_set hd with hd | hd
    · exact h.nd d hd
    · rw [hd]; exact Nat.zero_le _
  · show x.dst < (W.nds.set i _).length
    rw [List.length_set]; exact h.dst x hx
  · rcases List.mem_or_eq_of_mem_set hn with hn | hn
    · have := hb n hn; omega
    · have := Agr.getD_le hb i; omega
theorem cap_dup (h : Cap L K W) {n : Nat} (hb : W.bag.length < 800000) : Cap L K (W.dup n) := by
  unfold Wd.dup
  cases hx : W.bag[n]? with
  | none => exact h
  | some x =>
    have hm := List.mem_of_getElem? hx
    refine ⟨h.box, h.nd, fun y hy => ?_, by simp; omega, fun y hy => ?_, h.row, h.ep, h.cl, h.c0, h.bir⟩
    · rcases List.mem_append.1 hy with hy | hy
      · exact h.msg y hy
      · rw [List.mem_singleton.1 hy]; exact h.msg x hm
    · rcases List.mem_append.1 hy with hy | hy
      · exact h.dst y hy
      · rw [List.mem_singleton.1 hy]; exact h.dst x hm
theorem WAt.turned (h : WAt f w wb V ps W) {i : Nat} {p : Pl} {d : Nd} {b b' : Box C} (hp : ps[i]? = some p) (hd : W.nds[i]? = some d) (hnd : NdAt f (NW wb V ps) w p.nb p.bb p.cv p.cfv p.sv d b) (hb : BxAt f (NW wb V ps) w' p.bb p.cv b') (hs : Sep (FB p.bb p.cv) w w' (FB p.bb p.cv)) :
    ∃ ps', ps'.length = ps.length ∧ WAt f w' wb V ps' { W with boxes := W.boxes.set i b' } ∧ Sep (FW wb V ps) w w' (FW wb V ps') := by
  obtain ⟨k1, k2⟩ := hnd.turn0 hb hs
  obtain ⟨_, _, q, he, _, _, hw, _, _, h5⟩ := h.turn hp (o := ⟨d, b', [], []⟩) ⟨.slice none 0 0, .slice none 0 0, p.cv, p.cfv, p.sv, rfl, hnd.nw k1 k2, k2, msgR_nil _ _, comR_nil _ _⟩
  refine ⟨_, by simp, ?_, h5⟩
  have hds : W.nds.set i d = W.nds := by
    obtain ⟨hil, hpe⟩ := List.getElem?_eq_some_iff.1 hd
    rw [← hpe, List.set_getElem_self]
  rw [hds] at hw
  exact hw
theorem Wt.flipping (h : Wt f F0 w wb P L K W wr) {i : Nat} (hi : i < P) :
    ∃ (gx xc bb : Nat) (b : Bool), wb < wr.heap.size ∧ gx < wr.heap.size ∧ bb < wr.heap.size ∧ wr.cell? ⟨wb, 1, none⟩ = some (.slice (some ⟨gx, 0, none⟩) P xc) ∧ wr.cell? ⟨gx, i, none⟩ = some (.pointer (some ⟨bb, 0, none⟩)) ∧ wr.cell? ⟨bb, 4, none⟩ = some (.bool b) ∧ wr.frozen? ⟨bb, 4, none⟩ = false ∧
      Wt f F0 w wb P L K (W.flip i) (wr.setCell ⟨bb, 4, none⟩ (.bool (!b))) := by
  obtain ⟨V, ps, h1, h2, h3, h4⟩ := h
  obtain ⟨p, d, b, bi, gn, gx, gb, hp, hd, hb, hbi, hnd, hr⟩ := h2.atRow (i := i) (by omega)
  obtain ⟨c2, e2⟩ := hr.xv
  obtain ⟨cur2, a2⟩ := hr.xh
  obtain ⟨_, n1, _⟩ := h2.cells
  rw [e2, h1] at n1
  have hbx := hnd.box
  obtain ⟨_, _, _, _, q4⟩ := hbx.cells
  have hs : Sep (FB p.bb p.cv) wr (wr.setCell ⟨p.bb, 4, none⟩ (.bool (!b.full))) (FB p.bb p.cv) := Sep.set _ _ (b := p.bb) (.inl rfl) 4 _
  have hset : BxAt f (NW wb V ps) (wr.setCell ⟨p.bb, 4, none⟩ (.bool (!b.full))) p.bb p.cv { b with full := !b.full } :=
    ⟨by have := setCell_heap hbx.blk 4 (.bool (!b.full)); simpa using this, hbx.row.kp (Kp.ofSep hs hbx.apart) (fun g hg => Below.heap_setCell _ _ _ _ (fun e => hbx.ne (hg.trans (congrArg some e)))), hbx.apart, hbx.len, hbx.fst, hbx.ep⟩
  obtain ⟨ps', k1, k2, k3⟩ := h2.turned hp hd hnd hset hs
  refine ⟨gx, c2, p.bb, b.full, h2.wlt, lt_of_getElem? a2, lt_of_getElem? hbx.blk, n1, hr.xc, q4, frz hbx.blk 4, V, ps', k1.trans h1, ?_, cap_flip h3 (by rw [h2.nds.lb]; omega), h4.trans k3⟩
  have : W.flip i = { W with boxes := W.boxes.set i { b with full := !b.full } } := by unfold Wd.flip; rw [box_of hb]
  rw [this]; exact k2
theorem Wt.losing (h : Wt f F0 w wb P L K W wr) (hP : P ≤ 16) {i : Nat} (hi : i < P) (hbi : ∀ n ∈ W.births, n ≤ 999999) :
    ∃ (n gb bc gx xc : Nat) (u : Value) (w1 : World), n ≤ 999999 ∧ wb < wr.heap.size ∧ gb < wr.heap.size ∧ wr.cell? ⟨wb, 2, none⟩ = some (.slice (some ⟨gb, 0, none⟩) P bc) ∧ wr.cell? ⟨gb, i, none⟩ = some (.int .i64 (n : Int)) ∧ wr.frozen? ⟨gb, i, none⟩ = false ∧ wr.setCell ⟨gb, i, none⟩ (.int .i64 ((n : Int) + 1)) = w1 ∧
      wb < w1.heap.size ∧ gx < w1.heap.size ∧ w1.cell? ⟨wb, 1, none⟩ = some (.slice (some ⟨gx, 0, none⟩) P xc) ∧ w1.cell? ⟨gx, i, none⟩ = some u ∧ w1.frozen? ⟨gx, i, none⟩ = false ∧
      ∀ w2, w2 = (w1.alloc (.cells #[.slice none 0 0, .int .u64 0, .int .i64 0, .bool false, .bool false] 47)).setCell ⟨gx, i, none⟩ (.pointer (some ⟨w1.heap.size, 0, none⟩)) →
        Calls Try.prog 23 #[.pointer (some ⟨wb, 0, none⟩), .int .i64 (i : Int)] w2 fun e w' => e = .returned (.tuple #[]) ∧ Wt f F0 w wb P L K (W.lose i) w' := by
  obtain ⟨V, ps, h1, h2, h3, h4⟩ := h
  obtain ⟨p, d, b, bi, gn, gx, gb, hp, hd, hb, hb4, hnd, hr⟩ := h2.atRow (i := i) (by omega)
  obtain ⟨c1, e1⟩ := hr.nv
  obtain ⟨c2, e2⟩ := hr.xv
  obtain ⟨c3, e3⟩ := hr.bv
  obtain ⟨cur1, a1⟩ := hr.nh
  obtain ⟨cur2, a2⟩ := hr.xh
  obtain ⟨cur3, a3⟩ := hr.bh
  obtain ⟨n0, n1, n2, _⟩ := h2.cells
  rw [e1, h1] at n0
  rw [e2, h1] at n1
  rw [e3, h1] at n2
  have hn := hbi bi (List.mem_of_getElem? hb4)
  have hblk := h2.blk
  have wgb : wb ≠ gb := ty_ne hblk a3 (by decide)
  have xgb : gx ≠ gb := ty_ne a2 a3 (by decide)
  have ngb : gn ≠ gb := ty_ne a1 a3 (by decide)
  have wgx : wb ≠ gx := ty_ne hblk a2 (by decide)
  have ngx : gn ≠ gx := ty_ne a1 a2 (by decide)
  obtain ⟨w1, hw1⟩ : ∃ x, wr.setCell ⟨gb, i, none⟩ (.int .i64 ((bi : Int) + 1)) = x := ⟨_, rfl⟩
  have hk1 : ∀ x, x ≠ gb → w1.heap[x]? = wr.heap[x]? := fun x hx => by rw [← hw1]; exact Below.heap_setCell _ _ _ _ hx
  have hs1 : w1.heap.size = wr.heap.size := by rw [← hw1]; simp
  have x1 := (hk1 gx xgb).trans a2
  refine ⟨bi, gb, c3, gx, c2, _, w1, hn, h2.wlt, lt_of_getElem? a3, n2, hr.bc, frz a3 i, hw1, by rw [hs1]; exact h2.wlt, lt_of_getElem? x1, by rw [← n1]; simp [World.cell?, hk1 wb wgb], (by rw [← hr.xc]; simp [World.cell?, hk1 gx xgb]), frz x1 i, fun w2 hw2 => ?_⟩
  have hga : Grow w1 (w1.alloc (.cells #[.slice none 0 0, .int .u64 0, .int .i64 0, .bool false, .bool false] 47)) := Grow.alloc _ _
  have hba := heap_alloc_new w1 (.cells #[.slice none 0 0, .int .u64 0, .int .i64 0, .bool false, .bool false] 47)
  have hbx1 : gx ≠ w1.heap.size := by have := lt_of_getElem? x1; omega
  obtain ⟨wa, hwa⟩ : ∃ x, w1.alloc (.cells #[.slice none 0 0, .int .u64 0, .int .i64 0, .bool false, .bool false] 47) = x := ⟨_, rfl⟩
  rw [hwa] at hw2 hga hba
  have hk2 : ∀ x, x < wr.heap.size → x ≠ gb → x ≠ gx → w2.heap[x]? = wr.heap[x]? := fun x hx h5 h6 => by
    rw [hw2, Below.heap_setCell _ _ _ _ h6, hga.block x (by rw [hs1]; exact hx), hk1 x h5]
  have hsz2 : wr.heap.size ≤ w2.heap.size := by rw [hw2, ← hs1]; simpa using hga.size
  have hb2 : w2.heap[w1.heap.size]? = some (.cells #[.slice none 0 0, .int .u64 0, .int .i64 0, .bool false, .bool false] 47 (0, 0)) := by
    rw [hw2, Below.heap_setCell _ _ _ _ (fun e => hbx1 e.symm)]; exact hba
  have hx2 : w2.heap[gx]? = some (.cells (cur2.setIfInBounds i (.pointer (some ⟨w1.heap.size, 0, none⟩))) 48 (0, 0)) := by
    rw [hw2]; exact setCell_heap (hga.heap x1) i _
  have hg2 : w2.heap[gb]? = some (.cells (cur3.setIfInBounds i (.int .i64 ((bi : Int) + 1))) 3 (0, 0)) := by
    have h8 : w1.heap[gb]? = some (.cells (cur3.setIfInBounds i (.int .i64 ((bi : Int) + 1))) 3 (0, 0)) := by rw [← hw1]; exact setCell_heap a3 i _
    rw [hw2, Below.heap_setCell _ _ _ _ (fun e => xgb e.symm)]
    exact hga.heap h8
  have hwb2 := hk2 wb h2.wlt wgb wgx
  have hgn2 := hk2 gn (lt_of_getElem? a1) ngb ngx
  have hpw : ∀ x, FB w1.heap.size (.slice none 0 0) x → x = w1.heap.size := fun x hx => by
    rcases hx with hx | hx
    · exact hx
    · cases hx
  have hbox : BxAt f (fun x => NW wb V ps x ∧ x < wr.heap.size) w2 w1.heap.size (.slice none 0 0) (Box.new : Box C) :=
    ⟨hb2, cmdR_nil _ _, fun x hx hF => by have := hpw x hF; have := hx.2; omega, by simp [Box.new], Nat.le_refl _, Nat.zero_le _⟩
  have hcur3 : i < cur3.size := by
    have := hr.bc
    simp only [World.cell?, a3] at this
    by_cases hlt : i < cur3.size
    · exact hlt
    · simp [hlt] at this
  have hcur2 : i < cur2.size := by
    have := hr.xc
    simp only [World.cell?, a2] at this
    by_cases hlt : i < cur2.size
    · exact hlt
    · simp [hlt] at this
  have hbc : w2.cell? ⟨gb, i, none⟩ = some (.int .i64 ((bi + 1 : Nat) : Int)) := by simp [World.cell?, hg2, hcur3]
  have hxc : w2.cell? ⟨gx, i, none⟩ = some (.pointer (some ⟨w1.heap.size, 0, none⟩)) := by simp [World.cell?, hx2, hcur2]
  have hnc2 : w2.cell? ⟨gn, i, none⟩ = some (ptrN p) := by rw [← hr.nc]; simp [World.cell?, hgn2]
  refine (wanew_any (by exact Nat.lt_of_lt_of_le h2.wlt hsz2) (by rw [← n0]; simp [World.cell?, hwb2]) (by rw [← n1]; simp [World.cell?, hwb2]) (by rw [← n2]; simp [World.cell?, hwb2]) hi hP (lt_of_getElem? hx2) (lt_of_getElem? hg2) hxc hbc (hgn2.trans a1) hnc2 (by omega) hbox (fun x hx => Nat.lt_of_lt_of_le hx.2 hsz2)).mono ?_
  rintro e w' ha
  have hox : V.xv.ownBlock = some gx := by rw [e2]; rfl
  have hob : V.bv.ownBlock = some gb := by rw [e3]; rfl
  have hos : w2.os = wr.os ∧ w2.tape = wr.tape ∧ w2.output = wr.output := by
    rw [hw2]
    have o1 : w1.os = wr.os ∧ w1.tape = wr.tape ∧ w1.output = wr.output := by rw [← hw1]; exact ⟨rfl, rfl, rfl⟩
    exact ⟨hga.os.trans o1.1, hga.tape.trans o1.2.1, hga.output.trans o1.2.2⟩
  have hxr : Row1 48 0 w2 V.xv ((ps.set i ⟨p.nb, w1.heap.size, .slice none 0 0, p.cfv, p.sv⟩).map ptrX) := by
    have r1 : Row1 48 0 wa V.xv (ps.map ptrX) := h2.xrow.keep (fun g hg => by
      rw [hox] at hg; cases hg
      rw [hga.heap x1, a2])
    rw [hw2, List.map_set]
    exact r1.put hox i _
  have hbr : Row1 3 0 w2 V.bv ((W.births.set i (bi + 1)).map numV) := by
    have r1 := h2.brow.put hob i (.int .i64 ((bi : Int) + 1))
    rw [hw1] at r1
    have r2 : Row1 3 0 w2 V.bv ((W.births.map numV).set i (.int .i64 ((bi : Int) + 1))) := r1.keep (fun g hg => by
      rw [hob] at hg; cases hg
      rw [hw2, Below.heap_setCell _ _ _ _ (fun e => xgb e.symm)]
      exact hga.block gb (by rw [hs1]; exact lt_of_getElem? a3))
    rw [List.map_set]
    exact r2
  obtain ⟨he, ps', k1, k2, k3⟩ := h2.renewed hp hr.nv hos.1 hos.2.1 hos.2.2 hsz2 (fun x hx h5 h6 => hk2 x hx (fun e => h6 (by rw [hob, e])) (fun e => h5 (by rw [hox, e]))) hxr hbr (by rw [List.length_set]; exact h2.lr) (fun x hx => .inr (by rw [hpw x hx, hs1]; exact Nat.le_refl _)) ha
  refine ⟨he, V, ps', k1.trans h1, ?_, cap_lose h3 hbi, h4.trans k3⟩
  have hil : i < W.births.length := (List.getElem?_eq_some_iff.1 hb4).1
  have hw : W.lose i = { W with nds := W.nds.set i (newD i (bi + 1)), boxes := W.boxes.set i Box.new, births := W.births.set i (bi + 1) } := by
    unfold Wd.lose Wd.anew
    simp only [List.getD_eq_getElem?_getD, hb4, Option.getD_some, List.getElem?_set, hil, if_true]
  rw [hw]; exact k2
end
end Go.Proofs.Ytfchjoejdijjeaa
