/- net.out: the message itself, and the net without it; the same bound. -/
import Derived.Test.YtbanfilgokideaaN5
namespace Go.Proofs.Ytbanfilgokideaa
open Go.RowKit Go.Gl

/-- What 'out' comes to: the message's own value; the net without it. -/
def Outed (B : Nat) (w : World) (p r : Nat) (nodes bound now : Int) (gs : List Bag) (k : Int × Int) (j : Nat) (v : Value) (e : Ending) (w' : World) : Prop :=
  e = .returned v ∧ Keep softN B w w' ∧ ∃ gs', NetAt B w' p r nodes bound now gs' ∧ vw gs' = takeV k j (vw gs)

theorem bagVal_mem {gs : List Bag} (h : (gs.map Bag.key).Nodup) {g : Bag} (hg : g ∈ gs) : bagVal g.key gs = g.val := by
  unfold bagVal; rw [msgsAt_of h hg rfl]; rfl

theorem view_shrink {gs : List Bag} (g : Bag) (j : Nat) : vw (gs.map fun x => if g.key = x.key then { x with msgs := x.msgs.eraseIdx j } else x) = (vw gs).map fun x => if x.1 = g.key then (x.1, x.2.eraseIdx j) else x := by
  unfold vw
  rw [List.map_map, List.map_map]
  apply List.map_congr_left
  intro x _
  by_cases hxk : g.key = x.key
  · simp [hxk]
  · have : ¬ (x.key = g.key) := fun e => hxk e.symm
    simp [hxk, this]

theorem row_one {B : Nat} {w : World} {g : Bag} (h : BagAt B w g) : ∀ v ∈ g.msgs.map Msg.val, v.oneCell' = true := by
  intro v hv
  obtain ⟨m, hm, rfl⟩ := List.mem_map.1 hv
  exact oBytes_one (h.msg m hm)

set_option maxHeartbeats 2000000 in
theorem out_some {B : Nat} {w : World} {p r : Nat} {nodes bound now : Int} {gs : List Bag} (h : NetAt B w p r nodes bound now gs) (hfull : ∀ g ∈ gs, g.msgs ≠ []) (f t : Int) {g : Bag} (hg : g ∈ gs) (hgk : g.key = (f, t)) (j k : Nat) (hk : g.msgs.length = k + 1) (hk0 : k ≠ 0) (m : Msg) (hjm : g.msgs[j]? = some m)
    (hmax : g.msgs.length < 1000000000) :
    Calls Try.prog 20 #[.pointer (some ⟨p, 0, none⟩), .agg #[.int .i64 f, .int .i64 t], .int .i64 j] w (Outed B w p r nodes bound now gs (f, t) j m.val) := by
  have hjlt : j < g.msgs.length := (List.getElem?_eq_some_iff.1 hjm).1
  have hval : bagVal (f, t) gs = .slice (some ⟨g.row, 0, none⟩) (k + 1) g.cap := by rw [← hgk, bagVal_mem h.keys hg, Bag.val, hk]
  have hl2 : ∀ W, Below w.heap.size w W → (Instr.lookup 47 (.map (some r)) (.agg #[.int .i64 f, .int .i64 t]) false).run Try.prog W = .ok (.slice (some ⟨g.row, 0, none⟩) (k + 1) g.cap) W :=
    fun W hW => hval ▸ (h.grow hW).lookup (f, t)
  have hcellj : ∀ W, Below w.heap.size w W → W.cell? ⟨g.row, j, none⟩ = some m.val := fun W hW => by
    obtain ⟨arr, h1, _, _, _, h5⟩ := ((h.grow hW).bags g hg).row
    simp [World.cell?, h1, h5 j m hjm]
  obtain ⟨c0, c1, c2, c3⟩ := h.cells
  have hcl := Grow.cells (w := w)
  have l5 := World.block_lt_of_cell? w _ c0
  dsimp only at l5
  have hj0 : (0 : Int) ≤ (j : Int) := by omega
  have hj1 : (j : Int) < (k : Int) + 1 := by omega
  have hjb : IntKind.i64.wrap ((j : Int) + 1) = (j : Int) + 1 := IntWalk.i64_in _ (by omega)
  have HN := Lib.hid h
  have Hg := Lib.hid hg
  have Hk := Lib.hid hk
  have Hval := Lib.hid hval
  have Hjlt := Lib.hid hjlt
  have Hmax := Lib.hid hmax
  have Hfull := Lib.hid hfull
  have Hgk := Lib.hid hgk
  have hk1 : ((k : Int) == 0) = false := by simpa using hk0
  clear h hg hk hval hjlt hmax hfull hjm hgk
  go_enter Try.func20, Try.ntmps20
  go_wp2
  refine wp_region_pi (fun W => Below w.heap.size w W ∧ W.cell? ⟨w.heap.size, 0, none⟩ = some (.int .i64 f) ∧ W.cell? ⟨w.heap.size, 1, none⟩ = some (.int .i64 t))
    [(0, false), (1, false), (2, false), (3, false), (4, false), (5, false), (6, false), (7, false), (8, false), (9, false)] (by kernel_rfl) (by kernel_rfl) (fun c a d v w h => by cases d <;> exact h) ⟨by (repeat (first | exact Below.refl _ _ | assumption | refine Below.drew ?_ | refine bDrewN ?_ | refine Below.setCell ?_ (by first | omega | (simp <;> omega)) _ | refine Below.alloc ?_ (by first | omega | (simp <;> omega)) _)), by simp, by simp⟩ ?_
  simp only [arrange, nth]
  repeat (first | (refine wpPi_quiet (v := ?_) (by rfl) (fun W hW => ?_) ?_; rotate_left; (obtain ⟨hW, hW1, hW2⟩ := hW; go_simp; with_reducible rfl); simp only [Act.put, List.setIfInBounds_toArray, List.set_cons_zero, List.set_cons_succ]) | (refine wpPi_off (by rfl) ?_; simp only [Act.put, List.setIfInBounds_toArray, List.set_cons_zero, List.set_cons_succ]))
  refine wpPi_nil ?_
  go_wp2
  have hgW : Grow w (w.alloc (.cells #[.int .i64 f, .int .i64 t] 52)).drew.drew := by (repeat (first | exact Below.refl _ _ | assumption | refine Below.drew ?_ | refine bDrewN ?_ | refine Below.setCell ?_ (by first | omega | (simp <;> omega)) _ | refine Below.alloc ?_ (by first | omega | (simp <;> omega)) _))
  have hloc : (w.alloc (.cells #[.int .i64 f, .int .i64 t] 52)).drew.drew.heap[w.heap.size]? = some (.cells #[.int .i64 f, .int .i64 t] 52 (0, 0)) := heap_alloc_new w _
  refine wp_region_pi (fun W => W.cell? ⟨p, 3, none⟩ = some (.map (some r)) ∧ W.cell? ⟨w.heap.size, 0, none⟩ = some (.int .i64 f) ∧ W.cell? ⟨w.heap.size, 1, none⟩ = some (.int .i64 t))
    [(0, false), (1, false), (2, false), (3, false), (4, false), (5, false), (6, false), (7, false), (8, false), (9, false), (11, false), (12, false), (13, false), (10, true), (14, true), (15, true)] (by kernel_rfl) (by kernel_rfl) (fun c a d v w h => by cases d <;> exact h) ⟨?_, by simp, by simp⟩ ?_
  · exact (hcl _ _ _ hgW l5).trans c3
  simp only [arrange, nth]
  generalize (w.alloc (.cells #[.int .i64 f, .int .i64 t] 52)).drew.drew = W0 at *
  have hlk := hl2 _ hgW
  have hN1 := HN.out.grow hgW
  have hS0 : ∀ W, Keep softN B W0 W → (W.cell? ⟨p, 3, none⟩ = some (.map (some r)) ∧ W.cell? ⟨w.heap.size, 0, none⟩ = some (.int .i64 f) ∧ W.cell? ⟨w.heap.size, 1, none⟩ = some (.int .i64 t)) := fun W hW =>
    ⟨hW.cell hN1.self (not_softN (by decide) _ _) rfl, hW.cell hloc (not_softN (by decide) _ _) rfl, hW.cell hloc (not_softN (by decide) _ _) rfl⟩
  have HS := Lib.hid hS0
  have HN1 := Lib.hid hN1
  clear hN1 hl2 hS0 hcellj hloc
  repeat (first | (refine wpPi_quiet (v := ?_) (by rfl) (fun W hW => ?_) ?_; rotate_left; (obtain ⟨hW1, hW2, hW3⟩ := hW; go_simp; with_reducible rfl); simp only [Act.put, List.setIfInBounds_toArray, List.set_cons_zero, List.set_cons_succ]) | (refine wpPi_off (by rfl) ?_; simp only [Act.put, List.setIfInBounds_toArray, List.set_cons_zero, List.set_cons_succ]))
  refine wpPi_act (by rfl) (fun K hK => ?_)
  go_simp
  refine hK _ _ ⟨HS.out _ (Keep.refl _ _ _), ?_⟩
  clear hK K
  try simp only [Act.put, List.setIfInBounds_toArray, List.set_cons_zero, List.set_cons_succ]
  obtain ⟨arr, hr0, hB0, hlen0, hsz0, hel0⟩ := (HN1.out.bags g Hg.out).row
  have htk0 : arr.toList.take (k + 1) = g.msgs.map Msg.val := by
    have h1 := (HN1.out.bags g Hg.out).own
    rcases h1.2 with ⟨h2, _⟩ | ⟨b, cap, cur, h2, _, h3, _, _, _, h6⟩
    · simp [Bag.val] at h2
    · simp only [Bag.val, Value.slice.injEq, Option.some.injEq, Addr.mk.injEq] at h2
      rw [← h2.1.1, hr0] at h3
      cases h3
      rw [← Hk.out, ← Nat.mul_one g.msgs.length]; exact h6
  have hdel := delete_at W0 g.row k g.cap j arr hr0 hsz0 (by have := Hjlt.out; have := Hk.out; omega) (by have := Hk.out; omega) (by have := Hmax.out; have := Hk.out; omega) (by rw [htk0]; exact row_one (HN1.out.bags g Hg.out))
  have Hdel := Lib.hid hdel
  have Htk := Lib.hid htk0
  clear hdel htk0 hel0 hr0 hsz0 hlk
  refine wpPi_act (by rfl) (fun K hK => ?_)
  go_simp
  (with_reducible refine Hdel.out.mono ?_)
  rintro e W1 ⟨rfl, hgr, arr', harr', hsz', htk'⟩
  obtain ⟨W2, hru, hK2, hN2⟩ := net_shrink HN1.out Hg.out j Hjlt.out hgr harr' hsz' (by rw [Hk.out, htk', Htk.out])
  have hK1 : Keep softN B W0 W1 := Keep.grown hgr (fun x hx => by cases hx; exact hB0) HN1.out.room (fun x o hx ho => by
    cases hx
    obtain ⟨a2, h1, _⟩ := (HN1.out.bags g Hg.out).row
    rw [h1] at ho; cases ho; exact softN_row _ _)
  dsimp only
  refine hK _ _ ⟨HS.out _ hK1, ?_⟩
  clear hK K
  try simp only [Act.put, List.setIfInBounds_toArray, List.set_cons_zero, List.set_cons_succ]
  rw [Hk.out, Nat.add_sub_cancel] at hru
  simp only [Hgk.out, pairV] at hru
  have HK2 := Lib.hid hK2
  have HN2 := Lib.hid hN2
  clear hK1 hK2 hN2 hgr harr' hsz' htk'
  refine wpPi_act (by rfl) (fun K hK => ?_)
  go_simp
  refine hK _ _ ⟨HS.out _ HK2.out, ?_⟩
  clear hK K
  try simp only [Act.put, List.setIfInBounds_toArray, List.set_cons_zero, List.set_cons_succ]
  refine wpPi_nil ?_
  go_wp2
  -- is it empty?
  have hv2 : bagVal (f, t) (gs.map fun x => if g.key = x.key then { x with msgs := x.msgs.eraseIdx j } else x) = .slice (some ⟨g.row, 0, none⟩) k g.cap := by
    have h1 := bagVal_mem HN2.out.keys (g := { g with msgs := g.msgs.eraseIdx j }) (List.mem_map.2 ⟨g, Hg.out, by simp⟩)
    rw [← Hgk.out]
    refine h1.trans ?_
    simp [Bag.val, List.length_eraseIdx, Hk.out]
    have := Hjlt.out; have := Hk.out; omega
  have hl3 : ∀ W, Below W2.heap.size W2 W → (Instr.lookup 47 (.map (some r)) (.agg #[.int .i64 f, .int .i64 t]) false).run Try.prog W = .ok (.slice (some ⟨g.row, 0, none⟩) k g.cap) W :=
    fun W hW => hv2 ▸ (HN2.out.grow hW).lookup (f, t)
  obtain ⟨d3, d4, d5⟩ := HS.out _ HK2.out
  have hcl2 := Grow.cells (w := W2)
  have l6 := World.block_lt_of_cell? W2 _ d3
  have l7 := World.block_lt_of_cell? W2 _ d4
  dsimp only at l6 l7
  clear hv2 hru hcl c0 c1 c2 c3
  refine wp_region_pi (fun W => Below W2.heap.size W2 W)
    [(0, false), (1, false), (2, false), (3, false), (4, false), (5, false), (6, false), (7, false)] (by kernel_rfl) (by kernel_rfl) (fun c a d v w h => by cases d <;> exact h) (by (repeat (first | exact Below.refl _ _ | assumption | refine Below.drew ?_ | refine bDrewN ?_ | refine Below.setCell ?_ (by first | omega | (simp <;> omega)) _ | refine Below.alloc ?_ (by first | omega | (simp <;> omega)) _))) ?_
  simp only [arrange, nth]
  repeat (first | (refine wpPi_quiet (v := ?_) (by rfl) (fun W hW => ?_) ?_; rotate_left; (obtain hW := hW; go_simp; with_reducible rfl); simp only [Act.put, List.setIfInBounds_toArray, List.set_cons_zero, List.set_cons_succ]) | (refine wpPi_off (by rfl) ?_; simp only [Act.put, List.setIfInBounds_toArray, List.set_cons_zero, List.set_cons_succ]))
  refine wpPi_nil ?_
  go_wp2
  go_ret
  refine ⟨rfl, ((Keep.ofGrow hgW HN.out.room).trans HK2.out).trans (Keep.ofGrow (by (repeat (first | exact Below.refl _ _ | assumption | refine Below.drew ?_ | refine bDrewN ?_ | refine Below.setCell ?_ (by first | omega | (simp <;> omega)) _ | refine Below.alloc ?_ (by first | omega | (simp <;> omega)) _))) HN2.out.room), _, HN2.out.grow (by (repeat (first | exact Below.refl _ _ | assumption | refine Below.drew ?_ | refine bDrewN ?_ | refine Below.setCell ?_ (by first | omega | (simp <;> omega)) _ | refine Below.alloc ?_ (by first | omega | (simp <;> omega)) _))), ?_⟩
  rw [view_shrink, Hgk.out]
  unfold takeV
  refine (List.filter_eq_self.2 ?_).symm
  intro x hx
  obtain ⟨y, hy, rfl⟩ := List.mem_map.1 hx
  obtain ⟨z, hz, rfl⟩ := List.mem_map.1 hy
  by_cases hzk : z.key = (f, t)
  · have : z = g := key_inj HN.out.keys hz Hg.out (hzk.trans Hgk.out.symm)
    subst this
    simp only [hzk, if_true]
    have : (z.msgs.eraseIdx j).length = k := by rw [List.length_eraseIdx, if_pos Hjlt.out, Hk.out]; omega
    cases he : z.msgs.eraseIdx j with
    | nil => rw [he] at this; exact absurd this.symm hk0
    | cons _ _ => rfl
  · simp only [hzk, if_false]
    have := Hfull.out z hz
    cases he : z.msgs with
    | nil => exact absurd he this
    | cons _ _ => rfl
set_option maxHeartbeats 2000000 in
theorem out_last {B : Nat} {w : World} {p r : Nat} {nodes bound now : Int} {gs : List Bag} (h : NetAt B w p r nodes bound now gs) (hfull : ∀ g ∈ gs, g.msgs ≠ []) (f t : Int) {g : Bag} (hg : g ∈ gs) (hgk : g.key = (f, t)) (j : Nat) (hk : g.msgs.length = 1) (m : Msg) (hjm : g.msgs[j]? = some m)
    (hmax : g.msgs.length < 1000000000) :
    Calls Try.prog 20 #[.pointer (some ⟨p, 0, none⟩), .agg #[.int .i64 f, .int .i64 t], .int .i64 j] w (Outed B w p r nodes bound now gs (f, t) j m.val) := by
  have hjlt : j < g.msgs.length := (List.getElem?_eq_some_iff.1 hjm).1
  have hval : bagVal (f, t) gs = .slice (some ⟨g.row, 0, none⟩) 1 g.cap := by rw [← hgk, bagVal_mem h.keys hg, Bag.val, hk]
  have hl2 : ∀ W, Below w.heap.size w W → (Instr.lookup 47 (.map (some r)) (.agg #[.int .i64 f, .int .i64 t]) false).run Try.prog W = .ok (.slice (some ⟨g.row, 0, none⟩) 1 g.cap) W :=
    fun W hW => hval ▸ (h.grow hW).lookup (f, t)
  have hcellj : ∀ W, Below w.heap.size w W → W.cell? ⟨g.row, j, none⟩ = some m.val := fun W hW => by
    obtain ⟨arr, h1, _, _, _, h5⟩ := ((h.grow hW).bags g hg).row
    simp [World.cell?, h1, h5 j m hjm]
  obtain ⟨c0, c1, c2, c3⟩ := h.cells
  have hcl := Grow.cells (w := w)
  have l5 := World.block_lt_of_cell? w _ c0
  dsimp only at l5
  have hj0 : (0 : Int) ≤ (j : Int) := by omega
  have hj1 : (j : Int) < 1 := by omega
  have hjb : IntKind.i64.wrap ((j : Int) + 1) = (j : Int) + 1 := IntWalk.i64_in _ (by omega)
  have HN := Lib.hid h
  have Hg := Lib.hid hg
  have Hk := Lib.hid hk
  have Hval := Lib.hid hval
  have Hjlt := Lib.hid hjlt
  have Hmax := Lib.hid hmax
  have Hfull := Lib.hid hfull
  have Hgk := Lib.hid hgk
  clear h hg hk hval hjlt hmax hfull hjm hgk
  go_enter Try.func20, Try.ntmps20
  go_wp2
  refine wp_region_pi (fun W => Below w.heap.size w W ∧ W.cell? ⟨w.heap.size, 0, none⟩ = some (.int .i64 f) ∧ W.cell? ⟨w.heap.size, 1, none⟩ = some (.int .i64 t))
    [(0, false), (1, false), (2, false), (3, false), (4, false), (5, false), (6, false), (7, false), (8, false), (9, false)] (by kernel_rfl) (by kernel_rfl) (fun c a d v w h => by cases d <;> exact h) ⟨by (repeat (first | exact Below.refl _ _ | assumption | refine Below.drew ?_ | refine bDrewN ?_ | refine Below.setCell ?_ (by first | omega | (simp <;> omega)) _ | refine Below.alloc ?_ (by first | omega | (simp <;> omega)) _)), by simp, by simp⟩ ?_
  simp only [arrange, nth]
  repeat (first | (refine wpPi_quiet (v := ?_) (by rfl) (fun W hW => ?_) ?_; rotate_left; (obtain ⟨hW, hW1, hW2⟩ := hW; go_simp; with_reducible rfl); simp only [Act.put, List.setIfInBounds_toArray, List.set_cons_zero, List.set_cons_succ]) | (refine wpPi_off (by rfl) ?_; simp only [Act.put, List.setIfInBounds_toArray, List.set_cons_zero, List.set_cons_succ]))
  refine wpPi_nil ?_
  go_wp2
  have hgW : Grow w (w.alloc (.cells #[.int .i64 f, .int .i64 t] 52)).drew.drew := by (repeat (first | exact Below.refl _ _ | assumption | refine Below.drew ?_ | refine bDrewN ?_ | refine Below.setCell ?_ (by first | omega | (simp <;> omega)) _ | refine Below.alloc ?_ (by first | omega | (simp <;> omega)) _))
  have hloc : (w.alloc (.cells #[.int .i64 f, .int .i64 t] 52)).drew.drew.heap[w.heap.size]? = some (.cells #[.int .i64 f, .int .i64 t] 52 (0, 0)) := heap_alloc_new w _
  refine wp_region_pi (fun W => W.cell? ⟨p, 3, none⟩ = some (.map (some r)) ∧ W.cell? ⟨w.heap.size, 0, none⟩ = some (.int .i64 f) ∧ W.cell? ⟨w.heap.size, 1, none⟩ = some (.int .i64 t))
    [(0, false), (1, false), (2, false), (3, false), (4, false), (5, false), (6, false), (7, false), (8, false), (9, false), (11, false), (12, false), (13, false), (10, true), (14, true), (15, true)] (by kernel_rfl) (by kernel_rfl) (fun c a d v w h => by cases d <;> exact h) ⟨?_, by simp, by simp⟩ ?_
  · exact (hcl _ _ _ hgW l5).trans c3
  simp only [arrange, nth]
  generalize (w.alloc (.cells #[.int .i64 f, .int .i64 t] 52)).drew.drew = W0 at *
  have hlk := hl2 _ hgW
  have hN1 := HN.out.grow hgW
  have hS0 : ∀ W, Keep softN B W0 W → (W.cell? ⟨p, 3, none⟩ = some (.map (some r)) ∧ W.cell? ⟨w.heap.size, 0, none⟩ = some (.int .i64 f) ∧ W.cell? ⟨w.heap.size, 1, none⟩ = some (.int .i64 t)) := fun W hW =>
    ⟨hW.cell hN1.self (not_softN (by decide) _ _) rfl, hW.cell hloc (not_softN (by decide) _ _) rfl, hW.cell hloc (not_softN (by decide) _ _) rfl⟩
  have HS := Lib.hid hS0
  have HN1 := Lib.hid hN1
  clear hN1 hl2 hS0 hcellj hloc
  repeat (first | (refine wpPi_quiet (v := ?_) (by rfl) (fun W hW => ?_) ?_; rotate_left; (obtain ⟨hW1, hW2, hW3⟩ := hW; go_simp; with_reducible rfl); simp only [Act.put, List.setIfInBounds_toArray, List.set_cons_zero, List.set_cons_succ]) | (refine wpPi_off (by rfl) ?_; simp only [Act.put, List.setIfInBounds_toArray, List.set_cons_zero, List.set_cons_succ]))
  refine wpPi_act (by rfl) (fun K hK => ?_)
  go_simp
  refine hK _ _ ⟨HS.out _ (Keep.refl _ _ _), ?_⟩
  clear hK K
  try simp only [Act.put, List.setIfInBounds_toArray, List.set_cons_zero, List.set_cons_succ]
  obtain ⟨arr, hr0, hB0, hlen0, hsz0, hel0⟩ := (HN1.out.bags g Hg.out).row
  have htk0 : arr.toList.take 1 = g.msgs.map Msg.val := by
    have h1 := (HN1.out.bags g Hg.out).own
    rcases h1.2 with ⟨h2, _⟩ | ⟨b, cap, cur, h2, _, h3, _, _, _, h6⟩
    · simp [Bag.val] at h2
    · simp only [Bag.val, Value.slice.injEq, Option.some.injEq, Addr.mk.injEq] at h2
      rw [← h2.1.1, hr0] at h3
      cases h3
      rw [← Hk.out, ← Nat.mul_one g.msgs.length]; exact h6
  have hdel : Calls Try.prog 32 #[.slice (some ⟨g.row, 0, none⟩) 1 g.cap, .int .i64 j, .int .i64 (j + 1)] W0 (Deleted W0 g.row 1 g.cap j arr) := delete_at W0 g.row 0 g.cap j arr hr0 hsz0 (by have := Hjlt.out; have := Hk.out; omega) (by have := Hk.out; omega) (by have := Hmax.out; have := Hk.out; omega) (by rw [htk0]; exact row_one (HN1.out.bags g Hg.out))
  have Hdel := Lib.hid hdel
  have Htk := Lib.hid htk0
  clear hdel htk0 hel0 hr0 hsz0 hlk
  refine wpPi_act (by rfl) (fun K hK => ?_)
  go_simp
  (with_reducible refine Hdel.out.mono ?_)
  rintro e W1 ⟨rfl, hgr, arr', harr', hsz', htk'⟩
  obtain ⟨W2, hru, hK2, hN2⟩ := net_shrink HN1.out Hg.out j Hjlt.out hgr harr' hsz' (by rw [Hk.out, htk', Htk.out])
  have hK1 : Keep softN B W0 W1 := Keep.grown hgr (fun x hx => by cases hx; exact hB0) HN1.out.room (fun x o hx ho => by
    cases hx
    obtain ⟨a2, h1, _⟩ := (HN1.out.bags g Hg.out).row
    rw [h1] at ho; cases ho; exact softN_row _ _)
  dsimp only
  refine hK _ _ ⟨HS.out _ hK1, ?_⟩
  clear hK K
  try simp only [Act.put, List.setIfInBounds_toArray, List.set_cons_zero, List.set_cons_succ]
  rw [Hk.out] at hru
  simp only [Hgk.out, pairV] at hru
  have HK2 := Lib.hid hK2
  have HN2 := Lib.hid hN2
  clear hK1 hK2 hN2 hgr harr' hsz' htk'
  refine wpPi_act (by rfl) (fun K hK => ?_)
  go_simp
  refine hK _ _ ⟨HS.out _ HK2.out, ?_⟩
  clear hK K
  try simp only [Act.put, List.setIfInBounds_toArray, List.set_cons_zero, List.set_cons_succ]
  refine wpPi_nil ?_
  go_wp2
  -- is it empty?
  have hv2 : bagVal (f, t) (gs.map fun x => if g.key = x.key then { x with msgs := x.msgs.eraseIdx j } else x) = .slice (some ⟨g.row, 0, none⟩) 0 g.cap := by
    have h1 := bagVal_mem HN2.out.keys (g := { g with msgs := g.msgs.eraseIdx j }) (List.mem_map.2 ⟨g, Hg.out, by simp⟩)
    rw [← Hgk.out]
    refine h1.trans ?_
    simp [Bag.val, List.length_eraseIdx, Hk.out]
    have := Hjlt.out; have := Hk.out; omega
  have hl3 : ∀ W, Below W2.heap.size W2 W → (Instr.lookup 47 (.map (some r)) (.agg #[.int .i64 f, .int .i64 t]) false).run Try.prog W = .ok (.slice (some ⟨g.row, 0, none⟩) 0 g.cap) W :=
    fun W hW => hv2 ▸ (HN2.out.grow hW).lookup (f, t)
  obtain ⟨d3, d4, d5⟩ := HS.out _ HK2.out
  have hcl2 := Grow.cells (w := W2)
  have l6 := World.block_lt_of_cell? W2 _ d3
  have l7 := World.block_lt_of_cell? W2 _ d4
  dsimp only at l6 l7
  clear hv2 hru hcl c0 c1 c2 c3
  refine wp_region_pi (fun W => Below W2.heap.size W2 W)
    [(0, false), (1, false), (2, false), (3, false), (4, false), (5, false), (6, false), (7, false)] (by kernel_rfl) (by kernel_rfl) (fun c a d v w h => by cases d <;> exact h) (by (repeat (first | exact Below.refl _ _ | assumption | refine Below.drew ?_ | refine bDrewN ?_ | refine Below.setCell ?_ (by first | omega | (simp <;> omega)) _ | refine Below.alloc ?_ (by first | omega | (simp <;> omega)) _))) ?_
  simp only [arrange, nth]
  repeat (first | (refine wpPi_quiet (v := ?_) (by rfl) (fun W hW => ?_) ?_; rotate_left; (obtain hW := hW; go_simp; with_reducible rfl); simp only [Act.put, List.setIfInBounds_toArray, List.set_cons_zero, List.set_cons_succ]) | (refine wpPi_off (by rfl) ?_; simp only [Act.put, List.setIfInBounds_toArray, List.set_cons_zero, List.set_cons_succ]))
  refine wpPi_nil ?_
  go_wp2
  have hN3 := HN2.out.grow (w' := W2.drew.drew) (by (repeat (first | exact Below.refl _ _ | assumption | refine Below.drew ?_ | refine bDrewN ?_ | refine Below.setCell ?_ (by first | omega | (simp <;> omega)) _ | refine Below.alloc ?_ (by first | omega | (simp <;> omega)) _)))
  obtain ⟨W3, hrd, hK3, hN4⟩ := net_delete hN3 (f, t)
  simp only [pairV] at hrd
  have hS3 : (W3.cell? ⟨p, 3, none⟩ = some (.map (some r)) ∧ W3.cell? ⟨w.heap.size, 0, none⟩ = some (.int .i64 f) ∧ W3.cell? ⟨w.heap.size, 1, none⟩ = some (.int .i64 t)) :=
    HS.out _ ((HK2.out.trans (Keep.ofGrow (by (repeat (first | exact Below.refl _ _ | assumption | refine Below.drew ?_ | refine bDrewN ?_ | refine Below.setCell ?_ (by first | omega | (simp <;> omega)) _ | refine Below.alloc ?_ (by first | omega | (simp <;> omega)) _))) HN2.out.room)).trans hK3)
  refine wp_region_pi (fun W => W.cell? ⟨p, 3, none⟩ = some (.map (some r)) ∧ W.cell? ⟨w.heap.size, 0, none⟩ = some (.int .i64 f) ∧ W.cell? ⟨w.heap.size, 1, none⟩ = some (.int .i64 t))
    [(0, false), (1, false), (2, false), (3, false), (4, false), (5, true)] (by kernel_rfl) (by kernel_rfl) (fun c a d v w h => by cases d <;> exact h) ⟨d3, d4, d5⟩ ?_
  simp only [arrange, nth]
  repeat (first | (refine wpPi_quiet (v := ?_) (by rfl) (fun W hW => ?_) ?_; rotate_left; (obtain ⟨hW1, hW2, hW3⟩ := hW; go_simp; with_reducible rfl); simp only [Act.put, List.setIfInBounds_toArray, List.set_cons_zero, List.set_cons_succ]) | (refine wpPi_off (by rfl) ?_; simp only [Act.put, List.setIfInBounds_toArray, List.set_cons_zero, List.set_cons_succ]))
  have HS3 := Lib.hid hS3
  have HN4 := Lib.hid hN4
  have HK3 := Lib.hid hK3
  clear hS3 hN4 hK3 hN3
  refine wpPi_act (by rfl) (fun K hK => ?_)
  go_simp
  refine hK _ _ ⟨HS3.out, ?_⟩
  clear hK K
  try simp only [Act.put, List.setIfInBounds_toArray, List.set_cons_zero, List.set_cons_succ]
  refine wpPi_nil ?_
  go_wp2
  go_ret
  refine ⟨rfl, (((Keep.ofGrow hgW HN.out.room).trans HK2.out).trans (Keep.ofGrow (by (repeat (first | exact Below.refl _ _ | assumption | refine Below.drew ?_ | refine bDrewN ?_ | refine Below.setCell ?_ (by first | omega | (simp <;> omega)) _ | refine Below.alloc ?_ (by first | omega | (simp <;> omega)) _))) HN2.out.room)).trans HK3.out, _, HN4.out, ?_⟩
  have e1 := view_shrink (gs := gs) g j
  unfold takeV
  rw [← Hgk.out, ← e1]
  unfold vw
  conv => rhs; rw [List.filter_map]
  congr 1
  apply List.filter_congr
  intro x hx
  obtain ⟨z, hz, rfl⟩ := List.mem_map.1 hx
  by_cases hzk : g.key = z.key
  · have : z = g := key_inj HN.out.keys hz Hg.out hzk.symm
    subst this
    have h3 : z.msgs.eraseIdx j = [] := by
      apply List.eq_nil_of_length_eq_zero
      rw [List.length_eraseIdx, if_pos Hjlt.out, Hk.out]
    simp [h3]
  · have := Hfull.out z hz
    cases he : z.msgs with
    | nil => exact absurd he this
    | cons _ _ => simp [hzk, he]
end Go.Proofs.Ytbanfilgokideaa
