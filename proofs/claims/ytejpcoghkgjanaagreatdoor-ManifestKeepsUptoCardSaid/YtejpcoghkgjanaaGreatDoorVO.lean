/- Merged out of K8, K5: helpers. -/
import Derived.Test.YtejpcoghkgjanaaGreatDoorVN
import Derived.Test.YtejpcoghkgjanaaGreatDoorVA
import Derived.Test.YtejpcoghkgjanaaGreatDoorVG
import Derived.Test.YtejpcoghkgjanaaGreatDoorVM
/- The second closure of manifest.Decode; manifest.Decode of bytes that were written. -/
namespace Go.Proofs.YtejpcoghkgjanaaGreatDoor
open Go.RowKit Go.Gl Go.Wal Mn

/-- 'append' of one number. -/
theorem append_num {B : Nat} {w : World} {v : Value} {l : List Int} (h : OwnN B w v l) (hB : B ≤ w.heap.size) (hl : l.length ≤ 70000) (n : Int) :
    ∃ v' w', (Builtin.append_ #[24, 24] 24 #[v, .slice (some ⟨w.heap.size, 0, none⟩) 1 1]).run Tryz.prog (w.alloc (.cells #[.int .i64 n] 3)) = .ok v' w' ∧ OwnN B w' v' (l ++ [n]) ∧ w.grownBy w' v.ownBlock := by
  have hnw : (w.alloc (.cells #[.int .i64 n] 3)).heap[w.heap.size]? = some (.cells #[.int .i64 n] 3 (0, 0)) := heap_alloc_new _ _
  have hsrc : Src Tryz.prog 1 24 (.slice (some ⟨w.heap.size, 0, none⟩) 1 1) 1 [.int .i64 n] (w.alloc (.cells #[.int .i64 n] 3)) :=
    Src.ofSlice _ Tryz.underlying24 ⟨w.heap.size, 0, none⟩ 1 1 [.int .i64 n] rfl (fun j u hu => World.news_of_block hnw j u (by simpa using hu)) (fun u hu => by rw [List.mem_singleton.1 hu]; rfl)
  obtain ⟨v', w', h1, h2, h3, _⟩ := run_append_row (ty := 24) Tryz.underlying24 Tryz.infoI rfl (h.grow (Grow.alloc _ _)) hsrc (by simp; omega) (by simp; unfold maxLen; omega) (by simp; omega)
  obtain ⟨a, b, c, d, e⟩ := h3
  exact ⟨v', w', h1, by rw [OwnN, List.map_append]; exact h2, ⟨a, b, c, Nat.le_trans (by simp) d, fun k hk hn => by rw [e k (by simp; omega) hn]; exact heap_alloc_old _ _ hk⟩⟩

/-- A number more. -/
theorem DecS.drop {w0 W W' : World} {xb rb ob : Nat} {l : List UInt8} {tv dv v' : Value} {tl : List Tb} {dl dl' : List Int} (h : DecS w0 W xb rb ob l tv dv tl dl) (hg : W.grownBy W' dv.ownBlock) (ho : OwnN w0.heap.size W' v' dl') : DecS w0 (W'.setCell ⟨ob, 1, none⟩ v') xb rb ob l tv v' tl dl' := by
  obtain ⟨bv, h1, h2⟩ := h.rdr.cell
  obtain ⟨ga, gb, gc, gd, ge⟩ := hg
  have keep : ∀ {b : Nat} {arr : Array Value} {t : TypeId} {f : Nat × Nat}, W.heap[b]? = some (.cells arr t f) → t ≠ 3 → W'.heap[b]? = some (.cells arr t f) := fun {b arr t f} hb ht => by
    rw [ge b (lt_of_getElem? hb) (fun e => ?_)]
    · exact hb
    · obtain ⟨cur, hc⟩ := h.drops.block e.symm
      rw [hb] at hc; cases hc; exact ht rfl
  have hob := keep h.out (by decide)
  have ne : ∀ {b : Nat} {arr : Array Value} {t : TypeId} {f : Nat × Nat}, W'.heap[b]? = some (.cells arr t f) → t ≠ 41 → (W'.setCell ⟨ob, 1, none⟩ v').heap[b]? = some (.cells arr t f) := fun {b arr t f} hb ht => by
    rw [Below.heap_setCell _ _ _ _ (fun e => ?_)]
    · exact hb
    · have e' : b = ob := e
      subst e'; rw [hb] at hob; cases hob; exact ht rfl
  have hgr := h.rdr.grow
  refine ⟨⟨⟨bv, ne (keep h1 (by decide)) (by decide), h2⟩, ⟨ga.trans hgr.os, gb.trans hgr.tape, gc.trans hgr.output, by simp; exact Nat.le_trans hgr.size gd, fun b hb => ?_⟩, h.rdr.new⟩, ne (keep h.box (by decide)) (by decide), Go.Gl.setCell_heap hob 1 v', own_block_keep h.tabs fun g hg' => ?_, ho.keep fun g hg' => ?_, h.nx, h.no, (Below.heap_setCell _ _ _ _ (fun e => h.nq e)).trans (keep h.res (by decide)), h.nq⟩
  · rw [Below.heap_setCell _ _ _ _ (fun e => by have e' : b = ob := e; have := h.no; omega), ge b (Nat.lt_of_lt_of_le hb hgr.size) (fun e => by have := (h.drops.lt e.symm).1; omega)]
    exact hgr.block b hb
  · obtain ⟨cur, hc, _⟩ := own_at h.tabs hg'
    rw [ne (keep hc (by decide)) (by decide), hc]
  · obtain ⟨cur, hc⟩ := ho.block hg'
    rw [ne hc (by decide), hc]

set_option maxRecDepth 100000 in
set_option maxHeartbeats 4000000 in
theorem decB_any {w0 W : World} {xb rb ob : Nat} {r : List UInt8} {tv dv : Value} {tl : List Tb} {dl : List Int} {n : Nat} (hn : n ≤ 1099511627776) (h : DecS w0 W xb rb ob (numD n ++ r) tv dv tl dl) (hr : r.length ≤ 800000000000) (hdl : dl.length ≤ 70000) :
    Calls Tryz.prog 71 #[.pointer (some ⟨ob, 0, none⟩), .pointer (some ⟨xb, 0, none⟩)] W fun e w' => e = .returned (.tuple #[]) ∧ ∃ dv', DecS w0 w' xb rb ob r tv dv' tl (dl ++ [(n : Int)]) := by
  obtain ⟨c0, lx⟩ := h.cell
  have d1 : W.cell? ⟨ob, 1, none⟩ = some dv := by simp [World.cell?, h.out]
  have lo := lt_of_getElem? h.out
  have H := Lib.hid h
  clear h
  go_enter Tryz.func71, Tryz.ntmps71
  go_wp2_with fail
  refine wp_region_last (fun W' => (W'.cell? ⟨xb, 0, none⟩ = some (.pointer (some ⟨rb, 0, none⟩)) ∧ xb < W'.heap.size) ∧ W'.cell? ⟨ob, 1, none⟩ = some dv ∧ ob < W'.heap.size) [(0, false), (1, false), (2, false), (3, true), (4, true), (5, true), (6, false)] 7 (by kernel_rfl) (by kernel_rfl) (fun c a d v w h => by cases d <;> exact h) ⟨⟨by simpa using c0, by simpa using lx⟩, by simpa using d1, by simpa using lo⟩ ?_
  simp only [arrange, nth]
  clear c0 lx d1 lo
  repeat (first | (refine wpPi_quiet (v := ?_) (by rfl) (fun W hW => ?_) ?_; rotate_left; (obtain ⟨⟨hW0, hW1⟩, hW2, hW3⟩ := hW; go_simp; with_reducible rfl); simp only [Act.put, List.setIfInBounds_toArray, List.set_cons_zero, List.set_cons_succ]) | (refine wpPi_off (by rfl) ?_; simp only [Act.put, List.setIfInBounds_toArray, List.set_cons_zero, List.set_cons_succ]))
  refine wpPi_call (by rfl) (by go_simp) (rnumber_any (w0 := w0) (W := W.drew) (rb := rb) (H.out.grow (Grow.drew W)).rdr hn (by omega)) ?_
  rintro e w1 ⟨rfl, hR, hG⟩
  have hD1 := (H.out.grow (Grow.drew W)).step hR hG
  obtain ⟨c0, lx⟩ := hD1.cell
  have d1 : w1.cell? ⟨ob, 1, none⟩ = some dv := by simp [World.cell?, hD1.out]
  have lo := lt_of_getElem? hD1.out
  refine ⟨_, rfl, ⟨⟨c0, lx⟩, d1, lo⟩, ?_⟩
  try simp only [Act.put, List.setIfInBounds_toArray, List.set_cons_zero, List.set_cons_succ]
  refine wpPi_run (by rfl) (execOp_buildSlice1 (v := .int .i64 (n : Int)) rfl Tryz.underlying24 Tryz.infoI rfl rfl rfl) ⟨⟨by rw [World.cell?_alloc_lt _ _ _ lx]; exact c0, by simp; omega⟩, by rw [World.cell?_alloc_lt _ _ _ lo]; exact d1, by simp; omega⟩ ?_
  try simp only [Act.put, List.setIfInBounds_toArray, List.set_cons_zero, List.set_cons_succ]
  obtain ⟨v', w2, hrun, hown, hgr⟩ := append_num hD1.drops hD1.rdr.grow.size hdl (n : Int)
  obtain ⟨va, L, vc, rfl⟩ : ∃ a L c, v' = .slice a L c := by obtain ⟨a, c, h⟩ := hown.slice; exact ⟨_, _, _, h⟩
  have hD2 := hD1.drop (v' := .slice va L vc) hgr hown
  have hob : ∃ arr, w2.heap[ob]? = some (.cells arr 41 (0, 0)) ∧ arr = edCells tv dv 0 0 0 := by
    obtain ⟨_, _, _, _, ge⟩ := hgr
    refine ⟨_, (ge ob (lt_of_getElem? hD1.out) (fun e => ?_)).trans hD1.out, rfl⟩
    obtain ⟨cur, hc⟩ := hD1.drops.block e.symm
    exact ne_type hc hD1.out (by decide) rfl
  have hxb : w2.heap[xb]? = some (.cells #[.pointer (some ⟨rb, 0, none⟩)] 117 (0, 0)) := by
    obtain ⟨_, _, _, _, ge⟩ := hgr
    refine (ge xb (lt_of_getElem? hD1.box) (fun e => ?_)).trans hD1.box
    obtain ⟨cur, hc⟩ := hD1.drops.block e.symm
    exact ne_type hc hD1.box (by decide) rfl
  obtain ⟨arr, ha2, rfl⟩ := hob
  refine wpPi_run (by rfl) (execOp_append rfl rfl rfl hrun) ⟨⟨by simp [World.cell?, hxb], lt_of_getElem? hxb⟩, by simp [World.cell?, ha2], lt_of_getElem? ha2⟩ ?_
  try simp only [Act.put, List.setIfInBounds_toArray, List.set_cons_zero, List.set_cons_succ]
  repeat (first | (refine wpPi_quiet (v := ?_) (by rfl) (fun W hW => ?_) ?_; rotate_left; (obtain ⟨⟨hW0, hW1⟩, hW2, hW3⟩ := hW; go_simp; with_reducible rfl); simp only [Act.put, List.setIfInBounds_toArray, List.set_cons_zero, List.set_cons_succ]) | (refine wpPi_off (by rfl) ?_; simp only [Act.put, List.setIfInBounds_toArray, List.set_cons_zero, List.set_cons_succ]))
  refine wpPi_nil ?_
  have HD2 := Lib.hid hD2
  have d2 : w2.cell? ⟨ob, 1, none⟩ = some dv := by simp [World.cell?, ha2]
  have lo2 := lt_of_getElem? ha2
  have fo2 : ∀ i, w2.frozen? ⟨ob, i, none⟩ = false := fun i => by simp [World.frozen?, ha2]
  clear hD2 hD1 hown hgr ha2 hxb hrun d1 lo c0 lx hR hG
  refine lastQ_act (by rfl) (fun K hK => ?_)
  go_simp
  refine hK _ _ ?_
  clear hK K
  exact ⟨rfl, .tuple #[], by simp [results, Tryz.results71, go_sem], rfl, _, HD2.out⟩

/-- Behind the last stores of Decode: only the box that came out is another. -/
theorem DecS.apart {w0 W W' : World} {xb rb ob c : Nat} {l : List UInt8} {tv dv : Value} {tl : List Tb} {dl : List Int} (h : DecS w0 W xb rb ob l tv dv tl dl) {arr : Array Value} (hc : W.heap[c]? = some (.cells arr 41 (0, 0))) (hn : w0.heap.size ≤ c)
    (hos : W'.os = W.os ∧ W'.tape = W.tape ∧ W'.output = W.output) (hs : W'.heap.size = W.heap.size) (hk : ∀ b, b ≠ c → W'.heap[b]? = W.heap[b]?) :
    Rdr w0 W' rb l ∧ W'.heap[xb]? = some (.cells #[.pointer (some ⟨rb, 0, none⟩)] 117 (0, 0)) ∧ Own w0.heap.size W' tv tl ∧ OwnN w0.heap.size W' dv dl ∧ (w0.heap.size ≠ c → W'.heap[w0.heap.size]? = some (.cells (edCells (.slice none 0 0) (.slice none 0 0) 0 0 0) 41 (0, 0))) ∧ Grow w0 W' := by
  obtain ⟨bv, h1, h2⟩ := h.rdr.cell
  have hg := h.rdr.grow
  have hgr : Grow w0 W' := ⟨hos.1.trans hg.os, hos.2.1.trans hg.tape, hos.2.2.trans hg.output, by rw [hs]; exact hg.size, fun b hb => by rw [hk b (by omega)]; exact hg.block b hb⟩
  refine ⟨⟨⟨bv, (hk _ (ne_type h1 hc (by decide))).trans h1, h2⟩, hgr, h.rdr.new⟩, (hk _ (ne_type h.box hc (by decide))).trans h.box, own_block_keep h.tabs fun g hg' => ?_, h.drops.keep fun g hg' => ?_, fun hne => (hk _ hne).trans h.res, hgr⟩
  · obtain ⟨cur, hcur, _⟩ := own_at h.tabs hg'
    exact hk g (ne_type hcur hc (by decide))
  · obtain ⟨cur, hcur⟩ := h.drops.block hg'
    exact hk g (ne_type hcur hc (by decide))

theorem set5 {W : World} {b : Nat} {v0 v1 v2 v3 v4 : Value} {t : TypeId} (h : W.heap[b]? = some (.cells #[v0, v1, v2, v3, v4] t (0, 0))) (y0 y1 y2 y3 y4 : Value) :
    (((((W.setCell ⟨b, 0, none⟩ y0).setCell ⟨b, 1, none⟩ y1).setCell ⟨b, 2, none⟩ y2).setCell ⟨b, 3, none⟩ y3).setCell ⟨b, 4, none⟩ y4).heap[b]? = some (.cells #[y0, y1, y2, y3, y4] t (0, 0)) :=
  Go.Gl.setCell_heap (Go.Gl.setCell_heap (Go.Gl.setCell_heap (Go.Gl.setCell_heap (Go.Gl.setCell_heap h 0 y0) 1 y1) 2 y2) 3 y3) 4 y4

theorem results_dec {w : World} {t : Array Value} {rb : Nat} {x0 x1 x2 x3 x4 : Value} {c : Int} (h2 : t.getD 2 undef = .pointer (some ⟨rb, 0, none⟩)) (h3 : t.getD 3 undef = .int .i64 c) (hW : w.heap[rb]? = some (.cells #[x0, x1, x2, x3, x4] 41 (0, 0))) :
    (results Tryz.f36 t).run Tryz.prog w = .ok (.tuple #[.agg #[x0, x1, x2, x3, x4], .int .i64 c]) w := by
  obtain ⟨k0, k1, k2, k3, k4⟩ := cells5 hW
  simp only [Array.getD_eq_getD_getElem?] at h2 h3
  simp [results, Tryz.results36, go_sem, h2, h3, k0, k1, k2, k3, k4]

theorem enters68 : ∀ args w, (callFunc 68 args).run Tryz.prog w = .ok (.enter 68 args) w := enters_of Tryz.func68 (by kernel_rfl) rfl
theorem enters71 : ∀ args w, (callFunc 71 args).run Tryz.prog w = .ok (.enter 71 args) w := enters_of Tryz.func71 (by kernel_rfl) rfl

theorem listA {w W : World} {xb rb ob : Nat} {l : List Tb} {z : List UInt8} (hf : ∀ t ∈ l, TabFit t) (hl : l.length ≤ 65536) (hz : (l.flatMap tabB ++ z).length ≤ 700000000000) (h : DecS w W xb rb ob (numD l.length ++ (l.flatMap tabB ++ z)) (.slice none 0 0) (.slice none 0 0) [] []) :
    Calls Tryz.prog 67 #[.pointer (some ⟨rb, 0, none⟩), .func (.func 68) #[] #[.pointer (some ⟨xb, 0, none⟩), .pointer (some ⟨ob, 0, none⟩)]] W fun e w' => e = .returned (.tuple #[]) ∧ ∃ tv, DecS w w' xb rb ob z tv (.slice none 0 0) l [] := by
  have hlen : ∀ i, ((l.drop i).flatMap tabB ++ z).length ≤ 700000000000 := fun i => by
    have : l.flatMap tabB = (l.take i).flatMap tabB ++ (l.drop i).flatMap tabB := by rw [← List.flatMap_append, List.take_append_drop]
    rw [this] at hz
    simp only [List.length_append] at hz ⊢
    omega
  refine (rlist_any (fn := 68) (fun i W' => ∃ tv, DecS w W' xb rb ob ((l.drop i).flatMap tabB ++ z) tv (.slice none 0 0) (l.take i) []) h.rdr hl (by omega) (fun w1 hR hG => ⟨_, by simpa using h.step hR hG⟩) (fun i wr ⟨tv, hd⟩ => ⟨_, hd.rdr⟩) (fun i wr hi ⟨tv, hd⟩ => ?_) ⟨_, Tryz.func68, rfl⟩ enters68).mono ?_
  · obtain ⟨t, ht⟩ : ∃ t, l[i]? = some t := ⟨l[i], by simp [hi]⟩
    have hd1 : (l.drop i).flatMap tabB ++ z = tabB t ++ ((l.drop (i + 1)).flatMap tabB ++ z) := by
      obtain ⟨h1, rfl⟩ := List.getElem?_eq_some_iff.1 ht
      rw [List.drop_eq_getElem_cons h1, List.flatMap_cons, List.append_assoc]
    rw [hd1] at hd
    refine (decA_any (hf t (List.mem_of_getElem? ht)) hd (by have := hlen (i + 1); omega) (by rw [List.length_take]; omega)).mono ?_
    rintro e w' ⟨rfl, tv', hd'⟩
    refine ⟨rfl, tv', ?_⟩
    rw [take_snocT ht]
    exact hd'
  · rintro e w' ⟨rfl, tv, hd⟩
    rw [List.drop_length, List.take_length] at hd
    exact ⟨rfl, tv, hd⟩

theorem listB {w W : World} {xb rb ob : Nat} {tv : Value} {tl : List Tb} {l : List Int} {z : List UInt8} (hf : ∀ n ∈ l, Numb n) (hl : l.length ≤ 65536) (hz : (l.flatMap dropB ++ z).length ≤ 700000000000) (h : DecS w W xb rb ob (numD l.length ++ (l.flatMap dropB ++ z)) tv (.slice none 0 0) tl []) :
    Calls Tryz.prog 67 #[.pointer (some ⟨rb, 0, none⟩), .func (.func 71) #[] #[.pointer (some ⟨ob, 0, none⟩), .pointer (some ⟨xb, 0, none⟩)]] W fun e w' => e = .returned (.tuple #[]) ∧ ∃ dv, DecS w w' xb rb ob z tv dv tl l := by
  have hlen : ∀ i, ((l.drop i).flatMap dropB ++ z).length ≤ 700000000000 := fun i => by
    have : l.flatMap dropB = (l.take i).flatMap dropB ++ (l.drop i).flatMap dropB := by rw [← List.flatMap_append, List.take_append_drop]
    rw [this] at hz
    simp only [List.length_append] at hz ⊢
    omega
  refine (rlist_any (fn := 71) (fun i W' => ∃ dv, DecS w W' xb rb ob ((l.drop i).flatMap dropB ++ z) tv dv tl (l.take i)) h.rdr hl (by omega) (fun w1 hR hG => ⟨_, by simpa using h.step hR hG⟩) (fun i wr ⟨dv, hd⟩ => ⟨_, hd.rdr⟩) (fun i wr hi ⟨dv, hd⟩ => ?_) ⟨_, Tryz.func71, rfl⟩ enters71).mono ?_
  · obtain ⟨n, hn⟩ : ∃ n, l[i]? = some n := ⟨l[i], by simp [hi]⟩
    have hN := hf n (List.mem_of_getElem? hn)
    have hd1 : (l.drop i).flatMap dropB ++ z = numD n.toNat ++ ((l.drop (i + 1)).flatMap dropB ++ z) := by
      obtain ⟨h1, rfl⟩ := List.getElem?_eq_some_iff.1 hn
      rw [List.drop_eq_getElem_cons h1, List.flatMap_cons, List.append_assoc]; rfl
    rw [hd1] at hd
    refine (decB_any (by have := hN.2; omega) hd (by have := hlen (i + 1); omega) (by rw [List.length_take]; omega)).mono ?_
    rintro e w' ⟨rfl, dv', hd'⟩
    refine ⟨rfl, dv', ?_⟩
    rw [take_snocT hn]
    rw [Int.toNat_of_nonneg hN.1] at hd'
    exact hd'
  · rintro e w' ⟨rfl, dv, hd⟩
    rw [List.drop_length, List.take_length] at hd
    exact ⟨rfl, dv, hd⟩

set_option maxRecDepth 100000 in
set_option maxHeartbeats 4000000 in
theorem decode_ok {w : World} {bv : Value} {E : EdD} (hf : EdFit E) (h : Bv w bv (encD E)) (hl : (encD E).length ≤ 500000000000) :
    Calls Tryz.prog 36 #[bv] w fun e w' => ∃ tv dv, e = .returned (.tuple #[.agg (edCells tv dv E.seq E.next E.wal), .int .i64 0]) ∧ Own w.heap.size w' tv E.add ∧ OwnN w.heap.size w' dv E.drop ∧ Grow w w' := by
  obtain ⟨z5, hz5⟩ : ∃ x, x = numD E.wal.toNat ++ [] := ⟨_, rfl⟩
  obtain ⟨z4, hz4⟩ : ∃ x, x = numD E.next.toNat ++ z5 := ⟨_, rfl⟩
  obtain ⟨z3, hz3⟩ : ∃ x, x = numD E.seq.toNat ++ z4 := ⟨_, rfl⟩
  obtain ⟨z1, hz1⟩ : ∃ x, x = numD E.drop.length ++ (E.drop.flatMap dropB ++ z3) := ⟨_, rfl⟩
  have henc : encD E = numD E.add.length ++ (E.add.flatMap tabB ++ z1) := by rw [hz1, hz3, hz4, hz5]; simp [encD]
  have hl0 : (E.add.flatMap tabB ++ z1).length ≤ 700000000000 := by rw [henc] at hl; simp only [List.length_append] at hl ⊢; omega
  have hl1 : (E.drop.flatMap dropB ++ z3).length ≤ 700000000000 := by rw [hz1] at hl0; simp only [List.length_append] at hl0 ⊢; omega
  have b5 := numD_len E.wal.toNat
  have b4 := numD_len E.next.toNat
  have hl5 : z5.length ≤ 100 := by rw [hz5]; simp; omega
  have hl4 : z4.length ≤ 100 := by rw [hz4, hz5]; simp; omega
  obtain ⟨ba, bc, rfl⟩ := h.slice
  have hW : DecS w ((((w.alloc (.cells (edCells (.slice none 0 0) (.slice none 0 0) 0 0 0) 41)).alloc (.cells #[.slice ba (encD E).length bc, .int .i64 0] 119)).alloc (.cells #[.pointer (some ⟨w.heap.size + 1, 0, none⟩)] 117)).alloc (.cells (edCells (.slice none 0 0) (.slice none 0 0) 0 0 0) 41)) (w.heap.size + 1 + 1) (w.heap.size + 1) (w.heap.size + 1 + 1 + 1) (encD E) (.slice none 0 0) (.slice none 0 0) [] [] := by
    have s1 : ∀ (W : World) (o : Obj), (W.alloc o).heap.size = W.heap.size + 1 := fun W o => by simp
    have n1 := heap_alloc_new w (.cells (edCells (.slice none 0 0) (.slice none 0 0) 0 0 0) 41)
    generalize hw1 : w.alloc (.cells (edCells (.slice none 0 0) (.slice none 0 0) 0 0 0) 41) = w1 at *
    have z1' : w1.heap.size = w.heap.size + 1 := by rw [← hw1]; simp
    have g1 : Grow w w1 := by rw [← hw1]; exact Grow.alloc _ _
    have n2 := heap_alloc_new w1 (.cells #[.slice ba (encD E).length bc, .int .i64 0] 119)
    have g2 : Grow w1 (w1.alloc (.cells #[.slice ba (encD E).length bc, .int .i64 0] 119)) := Grow.alloc _ _
    generalize hw2 : w1.alloc (.cells #[.slice ba (encD E).length bc, .int .i64 0] 119) = w2 at *
    have z2' : w2.heap.size = w.heap.size + 1 + 1 := by rw [← hw2]; simp [z1']
    have n3 := heap_alloc_new w2 (.cells #[.pointer (some ⟨w.heap.size + 1, 0, none⟩)] 117)
    have g3 : Grow w2 (w2.alloc (.cells #[.pointer (some ⟨w.heap.size + 1, 0, none⟩)] 117)) := Grow.alloc _ _
    generalize hw3 : w2.alloc (.cells #[.pointer (some ⟨w.heap.size + 1, 0, none⟩)] 117) = w3 at *
    have z3' : w3.heap.size = w.heap.size + 1 + 1 + 1 := by rw [← hw3]; simp [z2']
    have n4 := heap_alloc_new w3 (.cells (edCells (.slice none 0 0) (.slice none 0 0) 0 0 0) 41)
    have g4 : Grow w3 (w3.alloc (.cells (edCells (.slice none 0 0) (.slice none 0 0) 0 0 0) 41)) := Grow.alloc _ _
    rw [z1'] at n2
    rw [z2'] at n3
    rw [z3'] at n4
    exact ⟨⟨⟨_, g4.heap (g3.heap n2), h⟩, ((g1.trans g2).trans g3).trans g4, by omega⟩, g4.heap n3, n4, World.ownsRow_nil _ _ _ _, row1_nil _ _ _, by omega, by omega, g4.heap (g3.heap (g2.heap n1)), by omega⟩
  have HW := Lib.hid hW
  have Hf := Lib.hid hf
  have Hz1 := Lib.hid hz1
  have Hz3 := Lib.hid hz3
  have Hz4 := Lib.hid hz4
  have Hz5 := Lib.hid hz5
  have Henc := Lib.hid henc
  clear h hW hf hz1 hz3 hz4 hz5 b4 b5 henc
  go_enter Tryz.func36, Tryz.ntmps36
  go_upto_region 3 with fail
  generalize (((w.alloc (.cells (edCells (.slice none 0 0) (.slice none 0 0) 0 0 0) 41)).alloc (.cells #[.slice ba (encD E).length bc, .int .i64 0] 119)).alloc (.cells #[.pointer (some ⟨w.heap.size + 1, 0, none⟩)] 117)).alloc (.cells (edCells (.slice none 0 0) (.slice none 0 0) 0 0 0) 41) = W0 at *
  have hW := HW.out
  rw [Henc.out] at hW
  generalize (encD E).length = L at *
  generalize hxb : w.heap.size + 1 + 1 = xb at *
  generalize hrb : w.heap.size + 1 = rb at *
  obtain ⟨c0, lx⟩ := hW.cell
  have Ha := Lib.hid (listA Hf.out.adds Hf.out.alen hl0 hW)
  clear hW HW hl
  go_wp2_with fail
  (with_reducible refine Ha.out.mono ?_)
  rintro e w1 ⟨rfl, tv, hd1⟩
  obtain ⟨c1, lx1⟩ := hd1.cell
  have Hb := Lib.hid (listB (z := z3) Hf.out.drops Hf.out.dlen hl1 (by rw [← Hz1.out]; exact hd1))
  clear hd1 Ha c0 lx
  go_upto_region 4 with fail
  go_wp2_with fail
  (with_reducible refine Hb.out.mono ?_)
  rintro e w2 ⟨rfl, dv, hd2⟩
  have HD2 := Lib.hid hd2
  clear hd2 Hb c1 lx1
  go_upto_region 5 with fail
  obtain ⟨c2, lx2⟩ := HD2.out.cell
  refine wp_region_pi (fun W' => W'.cell? ⟨xb, 0, none⟩ = some (.pointer (some ⟨rb, 0, none⟩)) ∧ xb < W'.heap.size) [(0, false), (2, false), (4, false), (1, true), (6, false), (3, true), (5, true), (7, true), (8, false), (9, true), (10, false), (11, true)] (by kernel_rfl) (by kernel_rfl) (fun c a d v w h => by cases d <;> exact h) ⟨by simpa using c2, by simpa using lx2⟩ ?_
  simp only [arrange, nth]
  clear c2 lx2
  repeat (first | (refine wpPi_quiet (v := ?_) (by rfl) (fun W hW => ?_) ?_; rotate_left; (obtain ⟨hW0, hW1⟩ := hW; go_simp; with_reducible rfl); simp only [Act.put, List.setIfInBounds_toArray, List.set_cons_zero, List.set_cons_succ]) | (refine wpPi_off (by rfl) ?_; simp only [Act.put, List.setIfInBounds_toArray, List.set_cons_zero, List.set_cons_succ]))
  have hdd := HD2.out.grow (Grow.drew w2)
  refine wpPi_call (by rfl) (by go_simp) (rany_any (w0 := w) (W := w2.drew) (rb := rb) (by have := hdd.rdr; rw [Hz3.out] at this; exact this) (n := E.seq.toNat) (by have := Hf.out.seq; omega) (by omega)) ?_
  rintro e w3 ⟨rfl, hR, hG⟩
  have hd3 := hdd.step hR hG
  refine ⟨_, rfl, hd3.cell, ?_⟩
  try simp only [Act.put, List.setIfInBounds_toArray, List.set_cons_zero, List.set_cons_succ]
  repeat (first | (refine wpPi_quiet (v := ?_) (by rfl) (fun W hW => ?_) ?_; rotate_left; (obtain ⟨hW0, hW1⟩ := hW; go_simp; with_reducible rfl); simp only [Act.put, List.setIfInBounds_toArray, List.set_cons_zero, List.set_cons_succ]) | (refine wpPi_off (by rfl) ?_; simp only [Act.put, List.setIfInBounds_toArray, List.set_cons_zero, List.set_cons_succ]))
  refine wpPi_call (by rfl) (by go_simp) (rnumber_any (w0 := w) (W := w3) (rb := rb) (by have := hd3.rdr; rw [Hz4.out] at this; exact this) (n := E.next.toNat) (by have := Hf.out.next.2; omega) (by omega)) ?_
  rintro e w4 ⟨rfl, hR4, hG4⟩
  have hd4 := hd3.step hR4 hG4
  refine ⟨_, rfl, hd4.cell, ?_⟩
  try simp only [Act.put, List.setIfInBounds_toArray, List.set_cons_zero, List.set_cons_succ]
  refine wpPi_call (by rfl) (by go_simp) (rnumber_any (w0 := w) (W := w4) (rb := rb) (by have := hd4.rdr; rw [Hz5.out] at this; exact this) (n := E.wal.toNat) (by have := Hf.out.wal.2; omega) (by simp)) ?_
  rintro e w5 ⟨rfl, hR5, hG5⟩
  have hd5 := hd4.step hR5 hG5
  refine ⟨_, rfl, hd5.cell, ?_⟩
  try simp only [Act.put, List.setIfInBounds_toArray, List.set_cons_zero, List.set_cons_succ]
  have eseq := Int.toNat_of_nonneg Hf.out.seq.1
  have enext := Int.toNat_of_nonneg Hf.out.next.1
  have ewal := Int.toNat_of_nonneg Hf.out.wal.1
  rw [eseq, enext, ewal]
  have HD5 := Lib.hid hd5
  have Hen := Lib.hid (And.intro eseq (And.intro enext ewal))
  clear hdd hR hG hR4 hG4 hR5 hG5 hd3 hd4 eseq enext ewal
  have ho5 := hd5.out
  have hx5 := hd5.box
  clear hd5
  obtain ⟨o0, o1, o2, o3, o4⟩ := cells5 ho5
  have lo5 := lt_of_getElem? ho5
  have fo5 : ∀ i, w5.frozen? ⟨xb + 1, i, none⟩ = false := fun i => by simp [World.frozen?, ho5]
  have ho6 : (w5.setCell ⟨xb + 1, 2, none⟩ (.int .u64 E.seq)).heap[xb + 1]? = some (.cells (edCells tv dv E.seq 0 0) 41 (0, 0)) := Go.Gl.setCell_heap ho5 2 _
  have hx6 : (w5.setCell ⟨xb + 1, 2, none⟩ (.int .u64 E.seq)).heap[xb]? = some (.cells #[.pointer (some ⟨rb, 0, none⟩)] 117 (0, 0)) := (Below.heap_setCell _ _ _ _ (ne_type hx5 ho5 (by decide))).trans hx5
  refine wpPi_act (by rfl) (fun K hK => ?_)
  go_simp
  refine hK _ _ ⟨⟨by simp [World.cell?, hx6], lt_of_getElem? hx6⟩, ?_⟩
  clear hK K
  try simp only [Act.put, List.setIfInBounds_toArray, List.set_cons_zero, List.set_cons_succ]
  repeat (first | (refine wpPi_quiet (v := ?_) (by rfl) (fun W hW => ?_) ?_; rotate_left; (obtain ⟨hW0, hW1⟩ := hW; go_simp; with_reducible rfl); simp only [Act.put, List.setIfInBounds_toArray, List.set_cons_zero, List.set_cons_succ]) | (refine wpPi_off (by rfl) ?_; simp only [Act.put, List.setIfInBounds_toArray, List.set_cons_zero, List.set_cons_succ]))
  clear o0 o1 o2 o3 o4 lo5 fo5
  have hk6 : ∀ b, b ≠ xb + 1 → (w5.setCell ⟨xb + 1, 2, none⟩ (.int .u64 E.seq)).heap[b]? = w5.heap[b]? := fun b hb => Below.heap_setCell _ _ _ _ hb
  have hp6 : (w5.setCell ⟨xb + 1, 2, none⟩ (.int .u64 E.seq)).os = w5.os ∧ (w5.setCell ⟨xb + 1, 2, none⟩ (.int .u64 E.seq)).tape = w5.tape ∧ (w5.setCell ⟨xb + 1, 2, none⟩ (.int .u64 E.seq)).output = w5.output := ⟨rfl, rfl, rfl⟩
  have hs6 : (w5.setCell ⟨xb + 1, 2, none⟩ (.int .u64 E.seq)).heap.size = w5.heap.size := by simp
  generalize w5.setCell ⟨xb + 1, 2, none⟩ (.int .u64 E.seq) = w6 at *
  obtain ⟨o0, o1, o2, o3, o4⟩ := cells5 ho6
  have lo6 := lt_of_getElem? ho6
  have fo6 : ∀ i, w6.frozen? ⟨xb + 1, i, none⟩ = false := fun i => by simp [World.frozen?, ho6]
  have ho7 : (w6.setCell ⟨xb + 1, 3, none⟩ (.int .i64 E.next)).heap[xb + 1]? = some (.cells (edCells tv dv E.seq E.next 0) 41 (0, 0)) := Go.Gl.setCell_heap ho6 3 _
  have hx7 : (w6.setCell ⟨xb + 1, 3, none⟩ (.int .i64 E.next)).heap[xb]? = some (.cells #[.pointer (some ⟨rb, 0, none⟩)] 117 (0, 0)) := (Below.heap_setCell _ _ _ _ (ne_type hx6 ho6 (by decide))).trans hx6
  refine wpPi_act (by rfl) (fun K hK => ?_)
  go_simp
  refine hK _ _ ⟨⟨by simp [World.cell?, hx7], lt_of_getElem? hx7⟩, ?_⟩
  clear hK K
  try simp only [Act.put, List.setIfInBounds_toArray, List.set_cons_zero, List.set_cons_succ]
  repeat (first | (refine wpPi_quiet (v := ?_) (by rfl) (fun W hW => ?_) ?_; rotate_left; (obtain ⟨hW0, hW1⟩ := hW; go_simp; with_reducible rfl); simp only [Act.put, List.setIfInBounds_toArray, List.set_cons_zero, List.set_cons_succ]) | (refine wpPi_off (by rfl) ?_; simp only [Act.put, List.setIfInBounds_toArray, List.set_cons_zero, List.set_cons_succ]))
  clear o0 o1 o2 o3 o4 lo6 fo6
  have hk7 : ∀ b, b ≠ xb + 1 → (w6.setCell ⟨xb + 1, 3, none⟩ (.int .i64 E.next)).heap[b]? = w5.heap[b]? := fun b hb => (Below.heap_setCell _ _ _ _ hb).trans (hk6 b hb)
  have hp7 : (w6.setCell ⟨xb + 1, 3, none⟩ (.int .i64 E.next)).os = w5.os ∧ (w6.setCell ⟨xb + 1, 3, none⟩ (.int .i64 E.next)).tape = w5.tape ∧ (w6.setCell ⟨xb + 1, 3, none⟩ (.int .i64 E.next)).output = w5.output := hp6
  have hs7 : (w6.setCell ⟨xb + 1, 3, none⟩ (.int .i64 E.next)).heap.size = w5.heap.size := by simpa using hs6
  clear hk6 hp6 hs6 ho6 hx6
  generalize w6.setCell ⟨xb + 1, 3, none⟩ (.int .i64 E.next) = w7 at *
  obtain ⟨o0, o1, o2, o3, o4⟩ := cells5 ho7
  have lo7 := lt_of_getElem? ho7
  have fo7 : ∀ i, w7.frozen? ⟨xb + 1, i, none⟩ = false := fun i => by simp [World.frozen?, ho7]
  have ho8 : (w7.setCell ⟨xb + 1, 4, none⟩ (.int .i64 E.wal)).heap[xb + 1]? = some (.cells (edCells tv dv E.seq E.next E.wal) 41 (0, 0)) := Go.Gl.setCell_heap ho7 4 _
  have hx8 : (w7.setCell ⟨xb + 1, 4, none⟩ (.int .i64 E.wal)).heap[xb]? = some (.cells #[.pointer (some ⟨rb, 0, none⟩)] 117 (0, 0)) := (Below.heap_setCell _ _ _ _ (ne_type hx7 ho7 (by decide))).trans hx7
  refine wpPi_act (by rfl) (fun K hK => ?_)
  go_simp
  refine hK _ _ ⟨⟨by simp [World.cell?, hx8], lt_of_getElem? hx8⟩, ?_⟩
  clear hK K
  try simp only [Act.put, List.setIfInBounds_toArray, List.set_cons_zero, List.set_cons_succ]
  clear o0 o1 o2 o3 o4 lo7 fo7
  have hk8 : ∀ b, b ≠ xb + 1 → (w7.setCell ⟨xb + 1, 4, none⟩ (.int .i64 E.wal)).heap[b]? = w5.heap[b]? := fun b hb => (Below.heap_setCell _ _ _ _ hb).trans (hk7 b hb)
  have hp8 : (w7.setCell ⟨xb + 1, 4, none⟩ (.int .i64 E.wal)).os = w5.os ∧ (w7.setCell ⟨xb + 1, 4, none⟩ (.int .i64 E.wal)).tape = w5.tape ∧ (w7.setCell ⟨xb + 1, 4, none⟩ (.int .i64 E.wal)).output = w5.output := hp7
  have hs8 : (w7.setCell ⟨xb + 1, 4, none⟩ (.int .i64 E.wal)).heap.size = w5.heap.size := by simpa using hs7
  clear hk7 hp7 hs7 ho7 hx7
  generalize w7.setCell ⟨xb + 1, 4, none⟩ (.int .i64 E.wal) = w8 at *
  refine wpPi_nil ?_
  obtain ⟨hr8, hb8, ht8, hd8, hq8, hg8⟩ := HD5.out.apart ho5 (by have := HD5.out.no; exact this) hp8 hs8 hk8
  have hq8' := hq8 HD5.out.nq
  obtain ⟨bv, hrc, hbv⟩ := hr8.cell
  obtain ⟨va, vc, rfl⟩ := hbv.slice
  have c1 : w8.cell? ⟨xb, 0, none⟩ = some (.pointer (some ⟨rb, 0, none⟩)) := by simp [World.cell?, hb8]
  have r0 : w8.cell? ⟨rb, 0, none⟩ = some (.slice va 0 vc) := by simp [World.cell?, hrc]
  have r1 : w8.cell? ⟨rb, 1, none⟩ = some (.int .i64 0) := by simp [World.cell?, hrc]
  have lr := lt_of_getElem? hrc
  have lx8 := lt_of_getElem? hb8
  obtain ⟨o0, o1, o2, o3, o4⟩ := cells5 ho8
  have lo8 := lt_of_getElem? ho8
  obtain ⟨q0, q1, q2, q3, q4⟩ := cells5 hq8'
  have lq8 := lt_of_getElem? hq8'
  have fq8 : ∀ i, w8.frozen? ⟨w.heap.size, i, none⟩ = false := fun i => by simp [World.frozen?, hq8']
  have ta := own_slice ht8
  obtain ⟨ta1, tc1, rfl⟩ := ta
  obtain ⟨da1, dL, dc1, rfl⟩ : ∃ a L c, dv = .slice a L c := by obtain ⟨a, c, h⟩ := hd8.slice; exact ⟨_, _, _, h⟩
  have hfin := set5 hq8' (.slice ta1 E.add.length tc1) (.slice da1 dL dc1) (.int .u64 E.seq) (.int .i64 E.next) (.int .i64 E.wal)
  have Hfin := Lib.hid hfin
  have Hq8 := Lib.hid hq8'
  have Ht8 := Lib.hid ht8
  have Hd8 := Lib.hid hd8
  have Hg8 := Lib.hid hg8
  clear hr8 hb8 ht8 hd8 hq8 hg8 hq8' hrc hbv ho8 hx8 hfin hk8 hp8 hs8 ho5 hx5
  go_wp2
  refine bodyPost_ret (results_dec rfl rfl Hfin.out) rfl ?_
  refine ⟨_, _, rfl, own_block_keep Ht8.out fun g hg' => ?_, Hd8.out.keep fun g hg' => ?_, ?_⟩
  · obtain ⟨cur, hc, _⟩ := own_at Ht8.out hg'
    exact setTab_other (ne_type hc Hq8.out (by decide)) _ _ _ _ _
  · obtain ⟨cur, hc⟩ := Hd8.out.block hg'
    exact setTab_other (ne_type hc Hq8.out (by decide)) _ _ _ _ _
  · exact ((((Hg8.out.setCell (p := ⟨w.heap.size, 0, none⟩) (Nat.le_refl _) _).setCell (p := ⟨w.heap.size, 1, none⟩) (Nat.le_refl _) _).setCell (p := ⟨w.heap.size, 2, none⟩) (Nat.le_refl _) _).setCell (p := ⟨w.heap.size, 3, none⟩) (Nat.le_refl _) _).setCell (p := ⟨w.heap.size, 4, none⟩) (Nat.le_refl _) _
end Go.Proofs.YtejpcoghkgjanaaGreatDoor

/- manifest.Set in memory: what stays; write. -/
namespace Go.Proofs.YtejpcoghkgjanaaGreatDoor
open Go.RowKit Go.Gl Go.Wal Mn

/-- Blocks that a disk, a set, or a row of bytes may write. -/
def Soft (t : TypeId) : Prop := t = 56 ∨ t = 77 ∨ t = 5 ∨ t = 58

/-- All other blocks stay. -/
structure Hold (w w' : World) : Prop where
  os : w'.os = w.os
  tape : w'.tape = w.tape
  output : w'.output = w.output
  size : w.heap.size ≤ w'.heap.size
  keep : ∀ (b : Nat) (arr : Array Value) (t : TypeId) (f : Nat × Nat), w.heap[b]? = some (.cells arr t f) → ¬ Soft t → w'.heap[b]? = some (.cells arr t f)

theorem Hold.refl (w : World) : Hold w w := ⟨rfl, rfl, rfl, Nat.le_refl _, fun _ _ _ _ h _ => h⟩
theorem Hold.trans {a b c : World} (h : Hold a b) (k : Hold b c) : Hold a c :=
  ⟨k.os.trans h.os, k.tape.trans h.tape, k.output.trans h.output, Nat.le_trans h.size k.size, fun x arr t f hx hs => k.keep x arr t f (h.keep x arr t f hx hs) hs⟩
theorem Hold.grow {w w' : World} (h : Grow w w') : Hold w w' := ⟨h.os, h.tape, h.output, h.size, fun _ _ _ _ hb _ => h.heap hb⟩
theorem Hold.sep {Z B : Nat} {w w' : World} {p r : Nat} {f : Lk} {T K : Nat} {F F' : Nat → Prop} (hd : Dl Z B w p r f T K F) (h : Sep F w w' F') : Hold w w' :=
  ⟨h.os, h.tape, h.output, h.size, fun b arr t fz hb hs => by
    rw [h.out b (lt_of_getElem? hb) (hd.apart hb (fun e => hs (.inl e)) (fun e => hs (.inr (.inl e))) (fun e => hs (.inr (.inr (.inl e)))))]; exact hb⟩
theorem Hold.set {w : World} {sb : Nat} {cs : Array Value} {f : Nat × Nat} (hb : w.heap[sb]? = some (.cells cs 58 f)) (j : Nat) (v : Value) : Hold w (w.setCell ⟨sb, j, none⟩ v) :=
  ⟨rfl, rfl, rfl, by simp, fun b arr t fz h hs => by
    rw [Below.heap_setCell _ _ _ _ (fun e => ?_)]
    · exact h
    · subst e
      rw [hb] at h
      cases h
      exact hs (.inr (.inr (.inr rfl)))⟩

theorem own_hold {B : Nat} {w w' : World} {v : Value} {l : List Tb} (h : Own B w v l) (hh : Hold w w') : Own B w' v l := by
  refine ⟨h.1, ?_⟩
  rcases h.2 with h1 | ⟨g, cap, cur, h1, h2, h3, h4⟩
  · exact .inl h1
  · exact .inr ⟨g, cap, cur, h1, h2, hh.keep _ _ _ _ h3 (by unfold Soft; decide), h4⟩

/-- A set's cells. -/
abbrev setCells (p : Nat) (tv : Value) (V : VerD) (n : Int) : Array Value := #[.pointer (some ⟨p, 0, none⟩), tv, .int .u64 V.seq, .int .i64 V.next, .int .i64 V.wal, .int .i64 n]
def SetAt (w : World) (sb p : Nat) (tv : Value) (V : VerD) (n : Int) : Prop := w.heap[sb]? = some (.cells (setCells p tv V n) 58 (0, 0))

theorem SetAt.grow {w w' : World} {sb p : Nat} {tv : Value} {V : VerD} {n : Int} (h : SetAt w sb p tv V n) (hg : Grow w w') : SetAt w' sb p tv V n := hg.heap h
theorem SetAt.sep {Z B : Nat} {w w' : World} {sb p p' r : Nat} {tv : Value} {V : VerD} {n : Int} {f : Lk} {T K : Nat} {F F' : Nat → Prop} (h : SetAt w sb p tv V n) (hd : Dl Z B w p' r f T K F) (hs : Sep F w w' F') : SetAt w' sb p tv V n := by
  have h' : w.heap[sb]? = some (.cells (setCells p tv V n) 58 (0, 0)) := h
  exact (hs.out sb (lt_of_getElem? h') (hd.apart h' (by decide) (by decide) (by decide))).trans h'
theorem SetAt.cells {w : World} {sb p : Nat} {tv : Value} {V : VerD} {n : Int} (h : SetAt w sb p tv V n) :
    w.cell? ⟨sb, 0, none⟩ = some (.pointer (some ⟨p, 0, none⟩)) ∧ w.cell? ⟨sb, 1, none⟩ = some tv ∧ w.cell? ⟨sb, 2, none⟩ = some (.int .u64 V.seq) ∧ w.cell? ⟨sb, 3, none⟩ = some (.int .i64 V.next) ∧ w.cell? ⟨sb, 4, none⟩ = some (.int .i64 V.wal) ∧ w.cell? ⟨sb, 5, none⟩ = some (.int .i64 n) ∧ sb < w.heap.size := by
  have h' : w.heap[sb]? = some (.cells (setCells p tv V n) 58 (0, 0)) := h
  exact ⟨by simp [World.cell?, h'], by simp [World.cell?, h'], by simp [World.cell?, h'], by simp [World.cell?, h'], by simp [World.cell?, h'], by simp [World.cell?, h'], lt_of_getElem? h'⟩

variable {Z B : Nat} {w w' : World} {p r : Nat} {f : Lk} {T K : Nat} {F : Nat → Prop}

/-- What write does to the files. -/
def writeD (Z : Nat) (n : ByteArray) (x : List UInt8) (f : Lk) (T : Nat) : Bool × Lk × Nat :=
  if T - lkLen f n + x.length ≤ Z then (true, f.set n (x, x.length), T - lkLen f n + x.length) else (false, f.del n, T - lkLen f n)

def okC (b : Bool) : Int := if b then 0 else 5

theorem lk_add_new {f : Lk} {n : ByteArray} (x : List UInt8) : (f.del n).add n x = f.set n (x, 0) := by
  unfold Lk.add
  rw [lk_del_same]
  exact lk_del_set f n (x, 0)

theorem DlTo.trans {F1 : Nat → Prop} {w1 w2 : World} {f1 f2 : Lk} {T1 T2 K1 K2 : Nat} (hs : Sep F w w1 F1) (_hd : Dl Z B w1 p r f1 T1 K1 F1) (h : DlTo Z B w1 p r F1 w2 f2 T2 K2) : DlTo Z B w p r F w2 f2 T2 K2 := by
  obtain ⟨F2, h1, h2⟩ := h
  exact ⟨F2, h1, hs.trans h2⟩

set_option maxRecDepth 100000 in
set_option maxHeartbeats 4000000 in
theorem write_any {sb : Nat} {tv : Value} {V : VerD} {m : Int} (hS : SetAt w sb p tv V m) (h : Dl Z B w p r f T K F) {n : ByteArray} (hn : NameOk n) {bv : Value} {x : List UInt8} (hx : Bv w bv x) (hxl : x.length ≤ 1000000000000)
    (hkeep : ∀ w' F', Sep F w w' F' → Bv w' bv x) :
    Calls Tryz.prog 60 #[.pointer (some ⟨sb, 0, none⟩), .string n, bv] w fun e w' => e = .returned (.int .i64 (okC (writeD Z n x f T).1)) ∧ DlTo Z B w p r F w' (writeD Z n x f T).2.1 (writeD Z n x f T).2.2 (K + 1) := by
  obtain ⟨c0, _, _, _, _, _, lsb⟩ := hS.cells
  obtain ⟨xa, xc, rfl⟩ := hx.slice
  have H := Lib.hid h
  have HS := Lib.hid hS
  have Hk := Lib.hid hkeep
  clear h hS hx hkeep
  go_enter Tryz.func60, Tryz.ntmps60
  go_wp2_with fail
  have hgA := Grow.alloc w (.cells #[.string n] 9)
  (with_reducible refine (dl_del_any (H.out.grow hgA) n (heap_alloc_new _ _)).mono ?_)
  rintro e w1 ⟨⟨c, rfl⟩, F1, hd1, hs1⟩
  have hs01 := (Sep.ofGrow (F := F) hgA).trans hs1
  have hS1 := HS.out.sep H.out hs01
  have hx1 := Hk.out _ _ hs01
  obtain ⟨d0, _, _, _, _, _, ld⟩ := hS1.cells
  have H1 := Lib.hid hd1
  have HS1 := Lib.hid hS1
  have Hs1 := Lib.hid hs01
  have Hx1 := Lib.hid hx1
  clear hd1 hs1 hs01 hS1 hx1 hgA Hk c0 lsb
  go_wp2_with fail
  have hgB := Grow.alloc w1 (.cells #[.slice xa x.length xc] 69)
  by_cases hroom : T - lkLen f n + x.length ≤ Z
  · have hD : writeD Z n x f T = (true, f.set n (x, x.length), T - lkLen f n + x.length) := if_pos hroom
    have HD := Lib.hid hD
    clear hD
    (with_reducible refine (dl_app (H1.out.grow hgB) hn (heap_alloc_new _ _) (Hx1.out.grow hgB) hroom).mono ?_)
    rintro e w2 ⟨rfl, F2, hd2, hs2⟩
    rw [lk_add_new] at hd2
    have hs12 := (Sep.ofGrow hgB).trans hs2
    have hS2 := HS1.out.sep H1.out hs12
    obtain ⟨k0, _, _, _, _, _, lk⟩ := hS2.cells
    have H2 := Lib.hid hd2
    have Hs2 := Lib.hid (Hs1.out.trans hs12)
    clear hgB hs2 hd2 hs12 hS2 d0 ld
    go_wp2_with fail
    have hgC := Grow.alloc w2 (.cells #[.string n] 9)
    (with_reducible refine (dl_sync (H2.out.grow hgC) (lk_set_same _ _ _) (heap_alloc_new _ _)).mono ?_)
    rintro e w3 ⟨rfl, F3, hd3, hs3⟩
    rw [lk_set_set] at hd3
    have Hend := Lib.hid (And.intro hd3 (Hs2.out.trans ((Sep.ofGrow hgC).trans hs3)))
    clear hgC hs3 hd3 k0 lk
    go_wp2
    go_ret
    rw [HD.out]
    exact ⟨rfl, F3, Hend.out.1, Hend.out.2⟩
  · have hD : writeD Z n x f T = (false, f.del n, T - lkLen f n) := if_neg hroom
    have HD := Lib.hid hD
    clear hD
    (with_reducible refine (dl_app_full (H1.out.grow hgB) hn (heap_alloc_new _ _) (Hx1.out.grow hgB) hxl (by omega)).mono ?_)
    rintro e w2 ⟨rfl, hg2⟩
    have hg12 := hgB.trans hg2
    have Hend := Lib.hid (And.intro (H1.out.grow hg12) (Hs1.out.trans (Sep.ofGrow hg12)))
    clear hgB hg2 hg12 d0 ld
    go_wp2
    go_ret
    rw [HD.out]
    exact ⟨rfl, F1, Hend.out.1.more (by omega), Hend.out.2⟩
end Go.Proofs.YtejpcoghkgjanaaGreatDoor
