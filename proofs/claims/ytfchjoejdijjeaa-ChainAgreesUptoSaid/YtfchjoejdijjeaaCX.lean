/- Merged out of FI, FJ: helpers. -/
import Derived.Test.YtfchjoejdijjeaaCW
set_option linter.unusedSimpArgs false
set_option linter.unusedVariables false
/- The law's world: deliver. -/
namespace Go.Gl
open Go Go.RowKit
section
variable {α : Type} {enc : α → List Value} {k : Nat} {N : Nat → Prop} {w : World} {xs : List α}
/-- What lies behind the first i elements. -/
theorem rowR_rest {a : Option Addr} {c i : Nat} (h : RowR N w (.slice a xs.length c) enc k xs) (hi : i ≤ xs.length) :
    ∃ ad, (if c = i then a else a.map (fun y => y.add (i * k))) = ad ∧ RowR N w (.slice ad (xs.length - i) (c - i)) enc k (xs.drop i) ∧ i ≤ c := by
  obtain ⟨a', c', e, h1, h2, h3, h4⟩ := h
  cases e
  have hl : (xs.drop i).length = xs.length - i := by simp
  refine ⟨_, rfl, ⟨_, c - i, by rw [hl], by omega, by omega, fun he => ?_, ?_⟩, by omega⟩
  · by_cases hci : c = i
    · omega
    · rw [if_neg hci] at he
      cases a with
      | none => have := h3 rfl; omega
      | some y => cases he
  · by_cases hx : xs.drop i = []
    · exact .inl hx
    · rcases h4 with h4 | ⟨b, o, rfl, hN, hb, hr⟩
      · exact absurd (by rw [h4]; simp) hx
      · have hlt : i < xs.length := by
          rcases Nat.lt_or_ge i xs.length with h | h
          · exact h
          · exact absurd (List.drop_eq_nil_of_le h) hx
        refine .inr ⟨b, o + i * k, ?_, hN, hb, fun q x hq c' u hu => ?_⟩
        · rw [if_neg (by omega)]
          simp [Addr.add_lit]
        · rw [List.getElem?_drop] at hq
          have := hr (i + q) x hq c' u hu
          rw [show o + i * k + q * k + c' = o + (i + q) * k + c' by rw [Nat.add_mul]; omega]
          exact this
end
end Go.Gl
namespace Go.Proofs.Ytfchjoejdijjeaa
open Go.RowKit Go.Gl Go.Wal Go.Ch Go.Shelf
section
variable {C : Type} {f : C → List UInt8} {w w' w1 w2 : World} {wb : Nat} {V : Vs} {ps : List Pl} {W : Wd C}
theorem OwnM.row {B : Nat} {N : Nat → Prop} {v : Value} {ms : List (Msg C)} (h : OwnM f B N w v ms) : ∃ ys : List (Mv C), ys.map Mv.x = ms ∧ RowR (fun x => v.ownBlock = some x) w v encM 3 ys ∧ ∀ y ∈ ys, Bw N w y.v (msgD f y.x) := by
  obtain ⟨ys, h1, h2, h3⟩ := h
  exact ⟨ys, h1, RowR.ofOwns encM3 h2 (fun g hg => hg), h3⟩
/-- The n-th message is taken out of the bag. -/
theorem WAt.cutBag (h : WAt f w wb V ps W) {n : Nat} (hn : n < W.bag.length) (hl : W.bag.length ≤ 1000000) :
    ∃ (g c : Nat) (ad : Option Addr) (n1 c1 n2 c2 : Nat) (a1 a2 : Option Addr) (wa wc : World), V.gv = .slice (some ⟨g, 0, none⟩) W.bag.length c ∧ W.bag.length ≤ c ∧ (if c = n + 1 then some ⟨g, 0, none⟩ else some ⟨g, (n + 1) * 3, none⟩) = ad ∧
      (Builtin.append_ #[41, 41] 41 #[.slice (some ⟨w.heap.size, 0, none⟩) 0 0, .slice (some ⟨g, 0, none⟩) n c]).run Try.prog (w.alloc (.cells #[] 62)) = .ok (.slice a1 n1 c1) wa ∧
      (Builtin.append_ #[41, 41] 41 #[.slice a1 n1 c1, .slice ad (W.bag.length - (n + 1)) (c - (n + 1))]).run Try.prog wa = .ok (.slice a2 n2 c2) wc ∧
      (wb < wa.heap.size ∧ wa.cell? ⟨wb, 3, none⟩ = some V.gv) ∧ wb < wc.heap.size ∧ wc.cell? ⟨wb, 3, none⟩ = some V.gv ∧ wc.frozen? ⟨wb, 3, none⟩ = false ∧
      WAt f (wc.setCell ⟨wb, 3, none⟩ (.slice a2 n2 c2)) wb { V with gv := .slice a2 n2 c2 } ps (W.drop n) ∧ Sep (FW wb V ps) w (wc.setCell ⟨wb, 3, none⟩ (.slice a2 n2 c2)) (FW wb { V with gv := .slice a2 n2 c2 } ps) ∧ (∀ x, x < w.heap.size → wc.heap[x]? = w.heap[x]?) := by
  obtain ⟨ys, hys, hrow, hbw⟩ := h.bag.row
  have hyl : ys.length = W.bag.length := by rw [← hys, List.length_map]
  obtain ⟨y, hy⟩ : ∃ y, ys[n]? = some y := ⟨ys[n]'(by omega), by simp [show n < ys.length by omega]⟩
  obtain ⟨b, o, c, hv, _, hb, hrd⟩ := hrow.addr hy
  obtain ⟨g, rfl, rfl⟩ : ∃ g, b = g ∧ o = 0 := by
    rcases h.bag with ⟨zs, h1, h2, h3⟩
    rcases h2.2 with ⟨hv2, _⟩ | ⟨g, cap, cur, hv2, _⟩
    · rw [hv2] at hv; cases hv
    · rw [hv2] at hv
      injection hv with e1 e2 e3
      injection e1 with e1
      injection e1 with e4 e5
      exact ⟨b, rfl, e5.symm⟩
  rw [hv] at hrow
  have hlc : ys.length ≤ c := by
    obtain ⟨_, _, e, hlc, _⟩ := id hrow
    cases e; exact hlc
  have hga : Grow w (w.alloc (.cells #[] 62)) := Grow.alloc _ _
  have hone : ∀ z ∈ ys, ∀ u ∈ encM z, u.oneCell' = true := fun z hz => encM_one (hbw z hz)
  have hfr := rowR_front (hrow.grow hga) (i := n) (by omega)
  obtain ⟨ad, had, hrs, hc1⟩ := rowR_rest hrow (i := n + 1) (by omega)
  have hmade := World.ownsRow_made (base := w.heap.size) (e := 62) (size := 3) w #[] 0 (Nat.le_refl _) (Nat.zero_le _) (by simp)
  obtain ⟨v1, wa, r1, r2, r3, r4⟩ := append_read (P := Try.prog) Try.underlying41 Try.infoM rfl (by decide) (by decide) encM3 (fun z hz => hone z (List.mem_of_mem_take hz)) hmade rfl hfr (by simp; omega) (by omega) hga.size
  have hwa : Grow w wa := ⟨r3.os, r3.tape, r3.output, Nat.le_trans hga.size r3.size, fun x hx => (r3.block x (Nat.lt_of_lt_of_le hx hga.size) (fun e => by have e' : x = w.heap.size := Option.some.inj e; omega)).trans (hga.block x hx)⟩
  have hv1 : ∀ x, v1.ownBlock = some x → w.heap.size ≤ x := fun x hx => (owns_lt r2 hx).1
  obtain ⟨v2, wc, q1, q2, q3, q4⟩ := append_read (P := Try.prog) Try.underlying41 Try.infoM rfl (by decide) (by decide) encM3 (fun z hz => hone z (List.mem_of_mem_drop hz)) r2 (by rcases r4 with r4 | r4 <;> rw [r4] <;> rfl) (hrs.grow hwa) (by simp; omega) (by simp; omega) hwa.size
  have hwc : Grow w wc := ⟨q3.os.trans hwa.os, q3.tape.trans hwa.tape, q3.output.trans hwa.output, Nat.le_trans hwa.size q3.size, fun x hx => (q3.block x (Nat.lt_of_lt_of_le hx hwa.size) (fun e => by have := hv1 x e.symm; omega)).trans (hwa.block x hx)⟩
  obtain ⟨a1, c1, e1⟩ := owns_slice r2
  obtain ⟨a2, c2, e2⟩ := owns_slice q2
  have hv2 : ∀ x, v2.ownBlock = some x → w.heap.size ≤ x := fun x hx => (owns_lt q2 hx).1
  have hbag : OwnM f 0 (fun x => (NW wb V ps x ∧ x < w.heap.size) ∨ (w.heap.size ≤ x ∧ v2.ownBlock ≠ some x)) wc v2 (W.bag.take n ++ W.bag.drop (n + 1)) := by
    refine ⟨ys.take n ++ ys.drop (n + 1), by rw [List.map_append, List.map_take, List.map_drop, hys], ?_, fun z hz => ?_⟩
    · have := owns_mono q2 (Nat.zero_le _)
      rw [List.nil_append, Nat.zero_add, ← List.flatMap_append, ← List.length_append] at this
      exact this
    · have hzm : z ∈ ys := by
        rcases List.mem_append.1 hz with hz | hz
        · exact List.mem_of_mem_take hz
        · exact List.mem_of_mem_drop hz
      exact (((hbw z hzm).mono (M := fun x => NW wb V ps x ∧ x < w.heap.size) (fun x h1 h2 => ⟨h1, h2⟩)).grow hwc).mono (fun x hx _ => .inl hx)
  obtain ⟨k1, k2, k3, k4, k5⟩ := h.newBag hwc.size hwc.os hwc.tape hwc.output (fun x hx _ => hwc.block x hx) (fun x hx => .inr (hv2 x hx)) hbag
  have hba := hwa.heap h.blk
  subst e1 e2
  exact ⟨_, c, ad, _, c1, _, c2, a1, a2, wa, wc, by rw [hv, hyl], by omega, by rw [← had]; simp [Addr.add_lit], by simpa using r1, by simpa [hyl] using q1, ⟨lt_of_getElem? hba, by simp [World.cell?, hba]⟩, k1, k2, k3, k4, k5, fun x hx => hwc.block x hx⟩
end
end Go.Proofs.Ytfchjoejdijjeaa

/- The law's world: deliver, walked. -/
namespace Go.Proofs.Ytfchjoejdijjeaa
open Go.RowKit Go.Gl Go.Wal Go.Ch Go.Shelf
section
variable {C : Type} {f : C → List UInt8} {w : World}
theorem OwnM.cell {B : Nat} {N : Nat → Prop} {v : Value} {ms : List (Msg C)} (h : OwnM f B N w v ms) {i : Nat} {x : Msg C} (hx : ms[i]? = some x) :
    ∃ g c u, v = .slice (some ⟨g, 0, none⟩) ms.length c ∧ g < w.heap.size ∧ w.cell? ⟨g, i * 3, none⟩ = some (.int .i64 (x.src : Int)) ∧ w.cell? ⟨g, i * 3 + 1, none⟩ = some (.int .i64 (x.dst : Int)) ∧ w.cell? ⟨g, i * 3 + 2, none⟩ = some u ∧ Bw N w u (msgD f x) := by
  obtain ⟨ys, rfl, h2, h3⟩ := h
  rw [List.getElem?_map] at hx
  cases hy : ys[i]? with
  | none => rw [hy] at hx; cases hx
  | some y =>
    rw [hy] at hx
    cases hx
    rcases id h2.2 with ⟨hv, e⟩ | ⟨g, m, cur, rfl, hB, hg, hr⟩
    · have : ys = [] := List.eq_nil_of_length_eq_zero e
      rw [this] at hy; simp at hy
    · have hrd := rd_of_owns encM3 h2
      have k0 := hrd i y hy 0 _ rfl
      have k1 := hrd i y hy 1 _ rfl
      have k2 := hrd i y hy 2 _ rfl
      rw [Nat.zero_add] at k0 k1 k2
      exact ⟨g, m, y.v, by rw [List.length_map], lt_of_getElem? hg, k0, k1, k2, h3 y (List.mem_of_getElem? hy)⟩
theorem cap_drop {W : Wd C} {L K : Nat} (h : Cap L K W) (n : Nat) : Cap L K (W.drop n) := by
  have hm : ∀ x, x ∈ W.bag.take n ++ W.bag.drop (n + 1) → x ∈ W.bag := fun x hx => by
    rcases List.mem_append.1 hx with hx | hx
    · exact List.mem_of_mem_take hx
    · exact List.mem_of_mem_drop hx
  refine ⟨h.box, h.nd, fun x hx => h.msg x (hm x hx), ?_, fun x hx => h.dst x (hm x hx), h.row, h.ep, h.cl, h.c0, h.bir⟩
  have := h.bag
  show (W.bag.take n ++ W.bag.drop (n + 1)).length ≤ 800000
  simp; omega
theorem msgC_ok {L K : Nat} (hL : L ≤ 90000) (hK : K ≤ 1099511627776) {x : Msg C} (h : MsgC L K x) : MsgOk x := by
  obtain ⟨src, dst, ep, body⟩ := x
  obtain ⟨h1, h2⟩ := h
  refine ⟨Nat.le_trans h2 hK, ?_⟩
  cases body with
  | entry k c => exact Nat.le_trans h1 (by omega)
  | tail k => exact Nat.le_trans h1 (by omega)
  | whole => trivial
  | state a l => exact ⟨Nat.le_trans h1.1 (by omega), h1.2⟩
end
section
variable {C : Type} [DecidableEq C] {f : C → List UInt8} {w w' w1 w2 : World} {wb : Nat} {V : Vs} {ps : List Pl} {W : Wd C} {L K : Nat}
set_option maxRecDepth 100000 in
set_option maxHeartbeats 4000000 in
theorem wdeliver_any (h : WAt f w wb V ps W) (cap : Cap L K W) (hL : L ≤ 90000) (hK : K ≤ 1000000000) (hps : ps.length ≤ 16) (hf : ∀ c, (f c).length ≤ 1048576) {n : Nat} (hn : n < W.bag.length) (hok : (W.deliver n).ok = true) :
    Calls Try.prog 19 #[.pointer (some ⟨wb, 0, none⟩), .int .i64 (n : Int)] w (OpPost f w wb V ps (W.deliver n)) := by
  obtain ⟨x, hx⟩ : ∃ x, W.bag[n]? = some x := ⟨W.bag[n], by simp [hn]⟩
  have hxm := List.mem_of_getElem? hx
  have hxd : x.dst < ps.length := by rw [← h.nds.ln]; exact cap.dst x hxm
  have hxc := cap.msg x hxm
  have hbl := cap.bag
  obtain ⟨g, gc, u, hgv, hgl, x0, x1, x2, hu⟩ := h.bag.cell hx
  obtain ⟨ua, uc, rfl⟩ := hu.slice
  have hwl := h.wlt
  obtain ⟨_, _, _, n3, _, _, _⟩ := h.cells
  rw [hgv] at n3
  have hn1 : (n : Int) < (W.bag.length : Int) := by omega
  have hga : Grow w (w.alloc (.cells #[.int .i64 (x.src : Int), .int .i64 (x.dst : Int), .slice ua (msgD f x).length uc] 62)) := Grow.alloc _ _
  have hma := heap_alloc_new w (.cells #[.int .i64 (x.src : Int), .int .i64 (x.dst : Int), .slice ua (msgD f x).length uc] 62)
  have hgd := hga.trans (Grow.drew (w.alloc (.cells #[.int .i64 (x.src : Int), .int .i64 (x.dst : Int), .slice ua (msgD f x).length uc] 62)))
  have hmd := (Grow.drew _).heap hma
  have hd1 := h.grow hgd
  have hud := hu.grow hgd
  obtain ⟨mb, hmb⟩ : ∃ m, m = w.heap.size := ⟨_, rfl⟩
  have H := Lib.hid h
  have Hcap := Lib.hid cap
  have Hx := Lib.hid hx
  have Hxd := Lib.hid hxd
  have Hxc := Lib.hid hxc
  have Hok := Lib.hid hok
  rw [← hmb] at hmd
  have Hmd := Lib.hid hmd
  have Hd1 := Lib.hid hd1
  have Hud := Lib.hid hud
  have Hgd := Lib.hid hgd
  obtain ⟨WP, hWP⟩ : ∃ X, W.deliver n = X := ⟨_, rfl⟩
  rw [hWP]
  have HWP := Lib.hid hWP
  have Hbl := Lib.hid hbl
  clear h cap hx hxm hxd hxc hok hma hmd hd1 hud hgd hga hWP hu hbl
  go_enter Try.func19, Try.ntmps19
  go_upto_region 1 with fail
  rw [← hmb]
  have Hmb := Lib.hid hmb
  clear hmb
  generalize hw1 : w.alloc (.cells #[.int .i64 (x.src : Int), .int .i64 (x.dst : Int), .slice ua (msgD f x).length uc] 62) = w1 at *
  clear hw1
  have hd1 := Hd1.out
  obtain ⟨gq, c, ad, m1, c1, m2, c2, a1, a2, wa, wc, hgv2, hlc, had, r1, r2, ⟨ka1, ka2⟩, k1, k2, k3, k4, k5, k6⟩ := hd1.cutBag hn (by have := Hbl.out; omega)
  rw [hgv] at hgv2
  cases hgv2
  rw [hgv] at ka2 k2
  obtain ⟨np, hnp⟩ : ∃ m, m = n + 1 := ⟨_, rfl⟩
  rw [← hnp] at had r2
  have hnp1 : IntKind.i64.wrap (np : Int) = (np : Int) := IntWalk.i64_in _ (by have := Hbl.out; omega)
  have hnp2 : (n : Int) + 1 = (np : Int) := by omega
  have hs1 : n ≤ gc := by omega
  have hs2 : np ≤ W.bag.length := by omega
  have hs3 : W.bag.length ≤ gc := hlc
  have hs4 : np ≤ gc := by omega
  have hmwb : mb ≠ wb := fun e => by have := Hmb.out; have := lt_of_getElem? Hmd.out; omega
  have hn3 := hd1.cells.2.2.2.1
  rw [hgv] at hn3
  have hwl1 := hd1.wlt
  have hwb1 : wb ≠ w1.drew.heap.size := by omega
  have Hr1 := Lib.hid r1
  have Hr2 := Lib.hid r2
  have Hnp := Lib.hid hnp
  have hmd2 : (wc.setCell ⟨wb, 3, none⟩ (.slice a2 m2 c2)).heap[mb]? = some (.cells #[.int .i64 (x.src : Int), .int .i64 (x.dst : Int), .slice ua (msgD f x).length uc] 62 (0, 0)) := (Below.heap_setCell _ _ _ _ hmwb).trans ((k6 mb (lt_of_getElem? Hmd.out)).trans Hmd.out)
  have Hmd2 := Lib.hid hmd2
  have Hk4 := Lib.hid k4
  have Hk5 := Lib.hid k5
  have Hud2 := Lib.hid (k5.bw Hud.out)
  clear r1 r2 hnp hmd2 k4 k5 k6 hd1 hgl x0 x1 x2 n3 Hmd Hud
  refine wp_region_last (fun Wx => Wx.cell? ⟨wb, 3, none⟩ = some (.slice (some ⟨g, 0, none⟩) W.bag.length gc) ∧ wb < Wx.heap.size) [(0, false), (2, false), (3, false), (4, false), (5, false), (6, false), (7, false), (9, false), (10, false), (11, false), (12, false), (13, false), (14, false), (15, false), (1, true), (8, true), (16, true), (17, false), (18, false)] 19 (by kernel_rfl) (by kernel_rfl) (fun c a d v w h => by cases d <;> exact h) ⟨hn3, hwl1⟩ ?_
  generalize w1.drew = wd at *
  simp only [arrange, nth]
  repeat ((first | (apply wpPi_quiet; rfl; rintro W ⟨hW0, hW1⟩; go_simp; with_reducible rfl) | (apply wpPi_off; rfl)); simp only [putA, List.set])
  refine wpPi_act (by rfl) (fun K hK => ?_)
  go_simp
  refine hK _ _ ⟨⟨by go_simp, by (go_simp <;> omega)⟩, ?_⟩
  clear hK K
  try first | simp only [putA, List.set] | simp only [putN]
  refine wpPi_run (by rfl) (execOp_append rfl rfl rfl Hr1.out) ⟨ka2, ka1⟩ ?_
  try first | simp only [putA, List.set] | simp only [putN]
  refine wpPi_run (by rfl) (execOp_append rfl rfl rfl Hr2.out) ⟨k2, k1⟩ ?_
  try first | simp only [putA, List.set] | simp only [putN]
  repeat ((first | (apply wpPi_quiet; rfl; rintro W ⟨hW0, hW1⟩; go_simp; with_reducible rfl) | (apply wpPi_off; rfl)); simp only [putA, List.set])
  refine wpPi_nil (lastQ_act (by rfl) (fun K hK => ?_))
  go_simp
  refine hK _ _ ?_
  clear hK K
  try first | simp only [putA, List.set] | simp only [putN]
  have hk4 := Hk4.out
  have hud2 := Hud2.out
  have hmd2 := Hmd2.out
  have hs5 := (Sep.ofGrow (F := FW wb V ps) Hgd.out).trans Hk5.out
  clear ka1 ka2 k1 k2 k3 hn3 hwl1 hwb1 Hr1 Hr2 hs1 hs2 hs3 hs4 hnp1 hnp2 Hk4 Hk5 Hmd2 Hud2 Hd1 Hgd
  generalize wc.setCell ⟨wb, 3, none⟩ (.slice a2 m2 c2) = w5 at *
  have hg6 := Grow.drew w5
  have hd6 := hk4.grow hg6
  obtain ⟨p, d, b, gn, gnc, hp, hd, hbx, hnd, hnv, hcell, hgnl⟩ := hd6.node Hxd.out
  have hmd6 := hg6.heap hmd2
  have hcap6 := cap_drop Hcap.out n
  have hblk := hd6.blk
  obtain ⟨ncur, hnc⟩ := hd6.nrow.block (g := gn) (by rw [hnv]; rfl)
  have hbc := hcap6.box b (List.mem_of_getElem? hbx)
  have hnde := hcap6.nd d (List.mem_of_getElem? hd)
  have hdw : W.deliver n = (W.drop n).put x.dst (recvM d b x) := by
    unfold Wd.deliver
    rw [Hx.out]
    show (W.drop n).put x.dst (recvM (W.nd x.dst) (W.box x.dst) x) = _
    rw [nd_of (W := W) hd, box_of (W := W) hbx]
  have hoc : OutC L K (recvM d b x) := recvM_c hbc hnde Hxc.out
  have Hcall := Lib.hid (nreceive_any hnd hf (by have := hbc.1; omega) (hud2.grow hg6) (msgC_ok hL (by omega) Hxc.out))
  obtain ⟨n0, _, _, _, _, _, _⟩ := hd6.cells
  rw [show ({ V with gv := .slice a2 m2 c2 } : Vs).nv = V.nv from rfl] at n0 hnv
  rw [hnv] at n0
  have hwl6 := hd6.wlt
  have hxd1 : (x.dst : Int) < (ps.length : Int) := by have := Hxd.out; omega
  have q0 : w5.drew.cell? ⟨mb, 0, none⟩ = some (.int .i64 (x.src : Int)) := by simp [World.cell?, hmd6]
  have q1 : w5.drew.cell? ⟨mb, 1, none⟩ = some (.int .i64 (x.dst : Int)) := by simp [World.cell?, hmd6]
  have q2 : w5.drew.cell? ⟨mb, 2, none⟩ = some (.slice ua (msgD f x).length uc) := by simp [World.cell?, hmd6]
  have lm : mb < w5.drew.heap.size := lt_of_getElem? hmd6
  have Hmd6 := Lib.hid hmd6
  have Hnc := Lib.hid hnc
  have Hblk := Lib.hid hblk
  have Hd6 := Lib.hid hd6
  have Hp := Lib.hid hp
  have Hoc := Lib.hid hoc
  have Hcap6 := Lib.hid hcap6
  have Hdw := Lib.hid hdw
  have Hs6 := Lib.hid (hs5.trans (Sep.ofGrow hg6))
  clear hk4 hud2 hmd2 hs5 hd6 hp hd hbx hnd hmd6 hnc hblk hbc hnde hoc hcap6 hdw hg6 Hcap Hx
  go_wp2_with fail
  refine wp_region_row (fun Wx => wb < Wx.heap.size ∧ Wx.cell? ⟨wb, 0, none⟩ = some (.slice (some ⟨gn, 0, none⟩) ps.length gnc) ∧ Wx.cell? ⟨gn, x.dst, none⟩ = some (ptrN p) ∧ mb < Wx.heap.size ∧ Wx.cell? ⟨mb, 0, none⟩ = some (.int .i64 (x.src : Int)) ∧ Wx.cell? ⟨mb, 1, none⟩ = some (.int .i64 (x.dst : Int)) ∧ Wx.cell? ⟨mb, 2, none⟩ = some (.slice ua (msgD f x).length uc)) [9] (by kernel_rfl) (fun c a d v w h => by cases d <;> exact h) ⟨hwl6, n0, hcell, lm, q0, q1, q2⟩ ?_
  generalize w5.drew = w6 at *
  simp only [inRow]
  repeat ((first | (apply wpPi_quiet; rfl; rintro W ⟨hW0, hW1, hW2, hW3, hW4, hW5, hW6⟩; go_simp; with_reducible rfl) | (apply wpPi_off; rfl)); simp only [putA, List.set])
  refine wpPi_call (by rfl) (by go_simp) Hcall.out ?_
  rintro e w7 ho
  obtain ⟨F', hsep⟩ := ho.sep
  have hpm := List.mem_of_getElem? Hp.out
  have s1 := Hd6.out.same hpm hsep Hblk.out (by decide) (by decide) (by decide)
  have s2 := Hd6.out.same hpm hsep Hnc.out (by decide) (by decide) (by decide)
  have s3 := Hd6.out.same hpm hsep Hmd6.out (by decide) (by decide) (by decide)
  obtain ⟨mv, kv, q, rfl, _, _, hw, hm, hk, hs⟩ := Hd6.out.turn Hp.out ho
  have Htold := Lib.hid (told_put Hd6.out Hcap6.out hL hps Hp.out Hoc.out (by rw [← Hdw.out]; exact Hok.out) hf hw hm hk hs)
  have z1 : w7.cell? ⟨mb, 1, none⟩ = some (.int .i64 (x.dst : Int)) := by rw [← q1]; simp [World.cell?, s3, Hmd6.out]
  have lm7 : mb < w7.heap.size := lt_of_getElem? s3
  refine ⟨_, rfl, ⟨lt_of_getElem? s1, ?_, ?_, lm7, ?_, z1, ?_⟩, ?_⟩
  · rw [← n0]; simp [World.cell?, s1, Hblk.out]
  · rw [← hcell]; simp [World.cell?, s2, Hnc.out]
  · rw [← q0]; simp [World.cell?, s3, Hmd6.out]
  · rw [← q2]; simp [World.cell?, s3, Hmd6.out]
  obtain ⟨ma, mc, rfl⟩ := hm.slice
  obtain ⟨ka, kc2, rfl⟩ := hk.slice
  clear s1 s2 s3 hw hm hk hs ho hsep n0 hcell q0 q1 q2 lm hwl6
  try first | simp only [putA, List.set] | simp only [putN]
  repeat ((first | (apply wpPi_quiet; rfl; rintro W ⟨hW0, hW1, hW2, hW3, hW4, hW5, hW6⟩; go_simp; with_reducible rfl) | (apply wpPi_off; rfl)); simp only [putA, List.set])
  refine wpPi_nil ?_
  go_wp2_with fail
  (with_reducible refine Htold.out.mono ?_)
  rintro e w8 ⟨rfl, V', ps', h1, h2, h3⟩
  have hpost : OpPost f w wb V ps WP (.returned (.tuple #[])) w8 := ⟨rfl, V', ps', h1, by rw [← HWP.out, Hdw.out]; exact h2, Hs6.out.trans h3⟩
  clear h1 h2 h3 Htold
  go_wp2
  exact ⟨rfl, .tuple #[], by simp [results, Try.results19, go_sem], hpost⟩
end
end Go.Proofs.Ytfchjoejdijjeaa
