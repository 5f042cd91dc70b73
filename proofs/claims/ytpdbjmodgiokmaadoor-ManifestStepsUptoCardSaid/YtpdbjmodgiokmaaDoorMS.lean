/- ManifestSteps: its walk. -/
import Derived.Test.YtpdbjmodgiokmaaDoorMK2
import Derived.Test.YtpdbjmodgiokmaaDoorMo
namespace Go.Proofs.YtpdbjmodgiokmaaDoor
open Go.RowKit Go.Gl

/-- A taken edit: its two rows, and what it says. -/
abbrev Tx := Value × Value × EdD
def encE (x : Tx) : List Value := [x.1, x.2.1, .int .u64 x.2.2.seq, .int .i64 x.2.2.next, .int .i64 x.2.2.wal]
theorem encE5 (x : Tx) : (encE x).length = 5 := rfl

/-- The row of the edits that were taken. -/
structure Tk (w wr : World) (tv : Value) (xs : List Tx) : Prop where
  own : wr.ownsRow w.heap.size 31 5 tv xs.length (xs.flatMap encE)
  ok : ∀ x ∈ xs, Tabs w x.1 x.2.2.add ∧ Ints w x.2.1 x.2.2.drop ∧ x.2.2.add.length ≤ 20 ∧ x.2.2.drop.length ≤ 20

theorem Tk.edits {w wr : World} {tv : Value} {xs : List Tx} (h : Tk w wr tv xs) (hg : Grow w wr) : Edits wr tv (xs.map (·.2.2)) := by
  have ho := h.own
  rcases ho.2 with ⟨rfl, h0⟩ | ⟨g, cap, cur, rfl, hB, hgg, hr⟩
  · have : xs = [] := List.eq_nil_of_length_eq_zero h0
    subst this
    exact ⟨none, 0, rfl, .inl rfl⟩
  · refine ⟨some ⟨g, 0, none⟩, cap, by simp, .inr ⟨g, 0, rfl, lt_of_getElem? hgg, fun i e he => ?_⟩⟩
    simp only [List.getElem?_map, Option.map_eq_some_iff] at he
    obtain ⟨x, hx, rfl⟩ := he
    have hrd := rd_of_owns encE5 ho i x hx
    obtain ⟨h1, h2, _, _⟩ := h.ok x (List.mem_of_getElem? hx)
    have z0 := hrd 0 _ rfl
    have z1 := hrd 1 _ rfl
    have z2 := hrd 2 _ rfl
    have z3 := hrd 3 _ rfl
    have z4 := hrd 4 _ rfl
    exact ⟨x.1, x.2.1, by simpa using z0, by simpa using z1, by simpa using z2, by simpa using z3, by simpa using z4, h1.grow hg, h2.grow hg⟩

theorem Tk.grow {w wr wr' : World} {tv : Value} {xs : List Tx} (h : Tk w wr tv xs) (hg : Grow wr wr') : Tk w wr' tv xs := ⟨owns_grow h.own hg, h.ok⟩

structure Inv (w : World) (vb : Nat) (i : Nat) (tv cv : Value) (V : VerD) (xs : List Tx) (wr : World) : Prop where
  box : wr.heap[vb]? = some (.cells (verCells cv V.seq V.next V.wal) 27 (0, 0))
  own : Own w.heap.size wr cv V.tabs
  tk : Tk w wr tv xs
  xl : xs.length ≤ i
  all : applyAllD verZero (xs.map (·.2.2)) = (0, V)
  once : Once V.tabs
  strict : Strict V.tabs
  len : V.tabs.length ≤ 20 * i
  gr : Grow w wr

/-- The last loop. -/
def LastInv (w : World) (n : Nat) (iv : Value) (wr : World) : Prop := ∃ j : Nat, iv = .int .i64 j ∧ 1 ≤ j ∧ (j ≤ n ∨ j = 1) ∧ Grow w wr

def StepInv (w : World) (vb n : Nat) (tv iv : Value) (wr : World) : Prop :=
  ∃ (i : Nat) (cv : Value) (V : VerD) (xs : List Tx), iv = .int .i64 i ∧ i ≤ n ∧ Inv w vb i tv cv V xs wr

theorem Inv.grow {w : World} {vb i : Nat} {tv cv : Value} {V : VerD} {xs : List Tx} {wr wr' : World} (h : Inv w vb i tv cv V xs wr) (hg : Grow wr wr') : Inv w vb i tv cv V xs wr' :=
  ⟨hg.heap h.box, owns_grow h.own hg, h.tk.grow hg, h.xl, h.all, h.once, h.strict, h.len, h.gr.trans hg⟩
theorem Inv.next {w : World} {vb i : Nat} {tv cv : Value} {V : VerD} {xs : List Tx} {wr : World} (h : Inv w vb i tv cv V xs wr) : Inv w vb (i + 1) tv cv V xs wr :=
  ⟨h.box, h.own, h.tk, by have := h.xl; omega, h.all, h.once, h.strict, by have := h.len; omega, h.gr⟩

/-- The slots of region 12. -/
def S12 (W0 : World) (ev : Value) (i b o : Nat) (av dv cv : Value) (x : EdD) (V : VerD) (r : Int × VerD) (k : Nat) (v : Value) (W : World) : Prop :=
  match k with
  | 0 => v = .agg (verCells cv V.seq V.next V.wal)
  | 1 => v = ev
  | 2 => v = .int .i64 i
  | 3 => v = .pointer (some ⟨b, o + i * 5, none⟩)
  | 4 => v = .agg (edCells av dv x.seq x.next x.wal)
  | 5 => ∃ bb, v = .slice (some ⟨bb, 0, none⟩) 1 1 ∧ W.heap[bb]? = some (.cells (edCells av dv x.seq x.next x.wal) 31 (0, 0))
  | 6 => ∃ a c, v = .tuple #[.agg (verCells (.slice a r.2.tabs.length c) r.2.seq r.2.next r.2.wal), .int .i64 r.1] ∧ Own W0.heap.size W (.slice a r.2.tabs.length c) r.2.tabs
  | 7 => ∃ a c, v = .tuple #[.agg (verCells (.slice a r.2.tabs.length c) r.2.seq r.2.next r.2.wal), .int .i64 r.1] ∧ Own W0.heap.size W (.slice a r.2.tabs.length c) r.2.tabs
  | 8 => ∃ a c, v = .agg (verCells (.slice a r.2.tabs.length c) r.2.seq r.2.next r.2.wal) ∧ Own W0.heap.size W (.slice a r.2.tabs.length c) r.2.tabs
  | 9 => v = .int .i64 r.1
  | 10 => ∃ b, W0.heap.size ≤ b ∧ v = .pointer (some ⟨b, 0, none⟩) ∧ ∃ x0 x1 x2 x3 : Value, W.heap[b]? = some (.cells #[x0, x1, x2, x3] 27 (0, 0))
  | 12 => v = .int .i64 r.1
  | _ => True

theorem S12.keep {W0 : World} {ev : Value} {i b o : Nat} {av dv cv : Value} {x : EdD} {V : VerD} {r : Int × VerD} : ∀ (j : Nat) (v : Value) (W W' : World), RB W W' → S12 W0 ev i b o av dv cv x V r j v W → S12 W0 ev i b o av dv cv x V r j v W' := by
  intro j v W W' hR h
  unfold S12 at h
  split at h
  · exact h
  · exact h
  · exact h
  · exact h
  · exact h
  · obtain ⟨b, hv, hc⟩ := h; exact ⟨b, hv, hR.stay _ _ _ (by decide) hc⟩
  · obtain ⟨a, c, hv, ho⟩ := h; exact ⟨a, c, hv, hR.own _ _ _ ho⟩
  · obtain ⟨a, c, hv, ho⟩ := h; exact ⟨a, c, hv, hR.own _ _ _ ho⟩
  · obtain ⟨a, c, hv, ho⟩ := h; exact ⟨a, c, hv, hR.own _ _ _ ho⟩
  · exact h
  · obtain ⟨b, hb, hv, x0, x1, x2, x3, hc⟩ := h; exact ⟨b, hb, hv, hR.box _ _ _ _ _ hc⟩
  · exact h
  · unfold S12; split <;> first | trivial | (exfalso; simp_all)

/-- What the box of the new version holds. -/
def Got (W0 : World) (r : Int × VerD) (pv : Value) (W : World) : Prop :=
  ∃ b a c, pv = .pointer (some ⟨b, 0, none⟩) ∧ W0.heap.size ≤ b ∧ W.heap[b]? = some (.cells (verCells (.slice a r.2.tabs.length c) r.2.seq r.2.next r.2.wal) 27 (0, 0)) ∧ Own W0.heap.size W (.slice a r.2.tabs.length c) r.2.tabs

def T12 (W0 : World) (r : Int × VerD) (l : Array Bool) (a : Act) (W : World) : Prop :=
  Below W0.heap.size W0 W ∧ (l.getD 11 false = true → ∃ pv, a.tmps[6]? = some pv ∧ Got W0 r pv W)

theorem T12.vac {W0 : World} {r : Int × VerD} {l : Array Bool} {a' : Act} {W' : World} (i : Nat) (hi : i ≠ 11) (hny : l.getD 11 false = false) (hB : Below W0.heap.size W0 W') : T12 W0 r (l.setIfInBounds i true) a' W' :=
  ⟨hB, fun h => by rw [getD_set_ne false hi, hny] at h; cases h⟩
theorem T12.pure {W0 : World} {r : Int × VerD} {l : Array Bool} {a : Act} {W : World} (i d : Nat) (v : Value) (hi : i ≠ 11) (hd : d ≠ 6) (h : T12 W0 r l a W) : T12 W0 r (l.setIfInBounds i true) (a.put (some d) v) W :=
  ⟨h.1, fun hl => by rw [getD_set_ne false hi] at hl; obtain ⟨pv, h1, h2⟩ := h.2 hl; exact ⟨pv, tmp_ne hd h1, h2⟩⟩

theorem owns_set {w : World} {B k b i : Nat} {e t : TypeId} {v : Value} {n : Nat} {xs : List Value} (h : w.ownsRow B e k v n xs) {arr : Array Value} {f : Nat × Nat} (hb : w.heap[b]? = some (.cells arr t f)) (ht : t ≠ e) {x : Value} : (w.setCell ⟨b, i, none⟩ x).ownsRow B e k v n xs := by
  refine ⟨h.1, ?_⟩
  rcases h.2 with h1 | ⟨g, cap, cur, h1, h2, h3, h4⟩
  · exact .inl h1
  · refine .inr ⟨g, cap, cur, h1, h2, ?_, h4⟩
    rw [Below.heap_setCell _ _ _ _ (fun e => ?_)]
    · exact h3
    · rw [e] at h3
      dsimp only at h3
      rw [hb] at h3; cases h3; exact ht rfl
theorem owns_set4 {w : World} {B k b : Nat} {e : TypeId} {v : Value} {n : Nat} {xs : List Value} (h : w.ownsRow B e k v n xs) {x0 x1 x2 x3 : Value} (hb : w.heap[b]? = some (.cells #[x0, x1, x2, x3] 27 (0, 0))) (ht : 27 ≠ e) (y0 y1 y2 y3 : Value) :
    ((((w.setCell ⟨b, 0, none⟩ y0).setCell ⟨b, 1, none⟩ y1).setCell ⟨b, 2, none⟩ y2).setCell ⟨b, 3, none⟩ y3).ownsRow B e k v n xs :=
  owns_set (owns_set (owns_set (owns_set h hb ht) (setCell_heap hb 0 y0) ht) (setCell_heap (setCell_heap hb 0 y0) 1 y1) ht) (setCell_heap (setCell_heap (setCell_heap hb 0 y0) 1 y1) 2 y2) ht
theorem box_apart {w : World} {B k b : Nat} {e t : TypeId} {v : Value} {n : Nat} {xs : List Value} (h : w.ownsRow B e k v n xs) {arr : Array Value} {f : Nat × Nat} (hb : w.heap[b]? = some (.cells arr t f)) (ht : t ≠ e) : some b ≠ v.ownBlock := by
  intro hc
  rcases h.2 with ⟨rfl, _⟩ | ⟨g, cap, cur, rfl, h2, h3, h4⟩
  · cases hc
  · have : b = g := Option.some.inj hc
    rw [this, h3] at hb; cases hb; exact ht rfl
theorem rows_apart {w : World} {B k B' k' : Nat} {e e' : TypeId} {v v' : Value} {n n' : Nat} {xs xs' : List Value} (h : w.ownsRow B e k v n xs) (h' : w.ownsRow B' e' k' v' n' xs') (ht : e ≠ e') : v.ownBlock = none ∨ v.ownBlock ≠ v'.ownBlock := by
  rcases h.2 with ⟨rfl, _⟩ | ⟨g, cap, cur, rfl, h2, h3, h4⟩
  · exact .inl rfl
  · exact .inr (box_apart h' h3 ht)

theorem grow_of {W w' : World} (h : ∃ q os', w' = Sort.grow (W.drewN q) os') : Grow W w' := by
  obtain ⟨q, os, rfl⟩ := h
  refine ⟨rfl, rfl, rfl, by simp [Sort.grow, World.drewN], fun k hk => ?_⟩
  simp only [Sort.grow, World.drewN]
  rw [Array.getElem?_append_left hk]

theorem Tryd.infoE : (Tryd.prog.info? 31).map (fun i => (i.zero, i.size, i.bytes)) = some (some (.agg #[.slice none 0 0, .slice none 0 0, .int .u64 0, .int .i64 0, .int .i64 0]), 5, 72) := by kernel_rfl

set_option maxRecDepth 100000 in
set_option maxHeartbeats 8000000 in
theorem steps_any (hA : ApplyOk) {w : World} {ev : Value} {es : List EdD} (he : Edits w ev es) (hel : es.length ≤ maxLen) (had : ∀ e ∈ es, e.add.length ≤ maxLen) :
    Calls Tryd.prog 3 #[ev] w fun e w' => e = .returned (.bool true) ∧ Grow w w' := by
  obtain ⟨ea, ec, rfl, her⟩ := he
  have HA := Lib.hid hA
  have Her := Lib.hid her
  have Had := Lib.hid had
  clear hA her had
  go_enter Tryd.func3, Tryd.ntmps3
  go_wp2_with fail
  (with_reducible refine (known_any HA.out _).mono ?_)
  rintro e w1 ⟨rfl, hg1⟩
  by_cases hmany : 40 < es.length
  · have hm : decide ((40 : Int) < (es.length : Int)) = true := by simp; omega
    go_wp2
    go_ret
    exact ⟨rfl, hg1⟩
  have hm : decide ((40 : Int) < (es.length : Int)) = false := by simp; omega
  have hst : StepInv w w1.heap.size es.length (.slice none 0 0) (.int .i64 0) (w1.alloc (.cells (verCells (.slice none 0 0) 0 0 0) 27)) :=
    ⟨0, .slice none 0 0, verZero, [], rfl, Nat.zero_le _, heap_alloc_new _ _, World.ownsRow_nil _ _ _ _, ⟨World.ownsRow_nil _ _ _ _, fun _ h => by cases h⟩, Nat.le_refl _, rfl, List.nodup_nil, List.Pairwise.nil, Nat.zero_le _, hg1.trans (Grow.alloc _ _)⟩
  have hvl : w.heap.size ≤ w1.heap.size := hg1.size
  have Hst := Lib.hid hst
  clear hst hg1
  go_wp2_with fail
  generalize w1.heap.size = vb at *
  go_loopw [4, 5] (fun tv iv wr => StepInv w vb es.length tv iv wr) (fun _ iv _ => es.length - (intOf iv).toNat)
  case atStart => exact Hst.out
  case round =>
    obtain ⟨i, cv, V, xs, rfl, hi, hinv⟩ := hrel
    by_cases hlt : i < es.length
    · obtain ⟨x, hx⟩ : ∃ x, es[i]? = some x := ⟨es[i], by simp [hlt]⟩
      obtain ⟨b, o, rfl, hbl, hed⟩ : ∃ b o, ea = some ⟨b, o, none⟩ ∧ b < w.heap.size ∧ ∀ (i : Nat) (e : EdD), es[i]? = some e → ∃ av dv, EdAt w b (o + i * 5) av dv e := by
        rcases Her.out with h1 | h1
        · rw [h1] at hlt; simp at hlt
        · exact h1
      obtain ⟨av, dv, hat0⟩ := hed i x hx
      have hxa := Had.out x (List.mem_of_getElem? hx)
      have hatr := hat0.grow hbl hinv.gr
      have hfew := few_any hatr.adds hatr.drops (by unfold maxLen at hxa; omega)
      obtain ⟨aa, ac, rfl, _⟩ := hat0.adds
      obtain ⟨da, dc, rfl, _, _⟩ := hat0.drops
      have Hat0 := Lib.hid hat0
      obtain ⟨p0, p1, p2, p3, p4, _, _⟩ := hatr
      have lb : b < wr.heap.size := Nat.lt_of_lt_of_le hbl hinv.gr.size
      have hi1 : (i : Int) < (es.length : Int) := by omega
      have hi0 : (0 : Int) ≤ (i : Int) := by omega
      have Hfew := Lib.hid hfew
      have Hinv := Lib.hid hinv
      clear hfew hat0 hed hx hinv
      go_wp2_with fail
      (with_reducible refine Hfew.out.mono ?_)
      rintro e w2 ⟨rb, rfl, hrb, hg2⟩
      clear p0 p1 p2 p3 p4
      cases rb with
      | false =>
        go_wp2
        go_ret
        exact ⟨rfl, Hinv.out.gr.trans hg2⟩
      | true =>
      obtain ⟨hxa2, hxd2⟩ := hrb rfl
      have hinv2 := Hinv.out.grow hg2
      have hat2 := Hat0.out.grow hbl hinv2.gr
      obtain ⟨va, vc, rfl⟩ := own_slice hinv2.own
      have Hinv2 := Lib.hid hinv2
      have Hat2 := Lib.hid hat2
      have lb2 : b < w2.heap.size := Nat.lt_of_lt_of_le hbl hinv2.gr.size
      have lv2 := lt_of_getElem? hinv2.box
      clear hinv2 hat2 Hfew Hinv lb hg2 hrb hxa
      go_upto_region 12 with fail
      go_cut [6, 7] from 29 to 38 (fun pv c wx => c = .int .i64 (applyAllD V [x]).1 ∧ Got w2 (applyAllD V [x]) pv wx ∧ Grow w2 wx)
      case first =>
        rename_i J K hJ hK
        refine wp_frame (fun a0 ha0 => ?_)
        have F0 : a0.tmps[0]? = some (.slice (some ⟨b, o, none⟩) es.length ec) := by rw [ha0]; rfl
        have F3 : a0.tmps[3]? = some (.pointer (some ⟨vb, 0, none⟩)) := by rw [ha0]; rfl
        have F5 : a0.tmps[5]? = some (.int .i64 i) := by rw [ha0]; rfl
        have hsz : a0.tmps.size = 102 := by rw [ha0]; rfl
        have Hrest : Hid (∀ a1 wx pv, FrameBut [6, 7, 29, 30, 31, 32, 33, 34, 35, 36, 37, 38] a0 a1 → a1.tmps[7]? = some (.int .i64 (applyAllD V [x]).1) → a1.tmps[6]? = some pv → Got w2 (applyAllD V [x]) pv wx → Grow w2 wx → K a1 wx) := Lib.hid (fun a1 wx pv ha h1 h2 h3 h4 => by
          refine hK _ _ (hJ _ _ ?_)
          refine ⟨a1.tmps.getD 6 undef, a1.tmps.getD 7 undef, a1.tmps.getD 29 undef, a1.tmps.getD 30 undef, a1.tmps.getD 31 undef, a1.tmps.getD 32 undef, a1.tmps.getD 33 undef, a1.tmps.getD 34 undef, a1.tmps.getD 35 undef, a1.tmps.getD 36 undef, a1.tmps.getD 37 undef, a1.tmps.getD 38 undef, ⟨by rw [Array.getD_eq_getD_getElem?, h1]; rfl, by rw [Array.getD_eq_getD_getElem?, h2]; exact h3, h4⟩, ha.fill.trans ?_⟩
          subst ha0
          kernel_rfl)
        clear ha0 hK hJ
        refine wp_region_flow (S12 w2 (.slice (some ⟨b, o, none⟩) es.length ec) i b o (.slice aa x.add.length ac) (.slice da x.drop.length dc) (.slice va V.tabs.length vc) x V (applyAllD V [x])) (T12 w2 (applyAllD V [x])) RB [6, 7, 29, 30, 31, 32, 33, 34, 35, 36, 37, 38] (by kernel_rfl) (by kernel_rfl) (by rw [hsz]; rfl) S12.keep ⟨Grow.drew _, fun h => by cases h⟩ ?_ (fun a1 W hf => ?_)
        rotate_left
        · obtain ⟨v, hv, hq⟩ := hf.slot 12 7 (by rfl) (by rfl)
          have hq' : v = _ := hq
          rw [hq'] at hv
          obtain ⟨pv, h6, hgot⟩ := hf.world.2 (by rfl)
          exact Hrest.out a1 W pv hf.alike hv h6 hgot hf.world.1
        clear Hrest
        refine ⟨?_, ?_, ?_, ?_, ?_, ?_, ?_, ?_, ?_, ?_, ?_, ?_, ?_, True.intro⟩
        · intro listed a W hf hun haf
          have hs1 : a.tmps.size = 102 := hf.alike.size.trans hsz
          have hB : Below w2.heap.size w2 W := hf.world.1
          have hny := not_yet hf.closed (n := 3) (e := 11) (i := 0) (by kernel_rfl) hun
          have G3 : a.tmps[3]'(by rw [hs1]; decide) = .pointer (some ⟨vb, 0, none⟩) := tmp_get ((hf.alike.same 3 (by decide)).trans F3) _
          have hv := hB.block _ lv2
          rw [Hinv2.out.box] at hv
          obtain ⟨x0, x1, x2, x3⟩ := cells4 hv
          have lW := lt_of_getElem? hv
          refine wpOp_act rfl (by rfl) (fun K' hK' => ?_)
          go_simp
          exact hK' _ _ ⟨_, rfl, (fun _ _ => rfl), RB.refl _, T12.vac 0 (by decide) hny hB⟩
        · intro listed a W hf hun haf
          have hs1 : a.tmps.size = 102 := hf.alike.size.trans hsz
          have hB : Below w2.heap.size w2 W := hf.world.1
          have hny := not_yet hf.closed (n := 3) (e := 11) (i := 1) (by kernel_rfl) hun
          have G0 : a.tmps[0]'(by rw [hs1]; decide) = .slice (some ⟨b, o, none⟩) es.length ec := tmp_get ((hf.alike.same 0 (by decide)).trans F0) _
          refine wpOp_act rfl (by rfl) (fun K' hK' => ?_)
          go_simp
          exact hK' _ _ ⟨_, rfl, (fun _ _ => rfl), RB.refl _, T12.vac 1 (by decide) hny hB⟩
        · intro listed a W hf hun haf
          have hs1 : a.tmps.size = 102 := hf.alike.size.trans hsz
          have hB : Below w2.heap.size w2 W := hf.world.1
          have hny := not_yet hf.closed (n := 3) (e := 11) (i := 2) (by kernel_rfl) hun
          have G5 : a.tmps[5]'(by rw [hs1]; decide) = .int .i64 i := tmp_get ((hf.alike.same 5 (by decide)).trans F5) _
          refine wpOp_act rfl (by rfl) (fun K' hK' => ?_)
          go_simp
          exact hK' _ _ ⟨_, rfl, (fun _ _ => rfl), RB.refl _, T12.vac 2 (by decide) hny hB⟩
        · intro listed a W hf hun haf
          have hs1 : a.tmps.size = 102 := hf.alike.size.trans hsz
          have hB : Below w2.heap.size w2 W := hf.world.1
          have hny := not_yet hf.closed (n := 3) (e := 11) (i := 3) (by kernel_rfl) hun
          obtain ⟨v1, s1, q1⟩ := hf.slot 1 31 rfl (after_listed haf 1 (by kernel_rfl))
          have q1' : v1 = _ := q1
          subst q1'
          have G31 := tmp_get s1 (by rw [hs1]; decide)
          obtain ⟨v2, s2, q2⟩ := hf.slot 2 32 rfl (after_listed haf 2 (by kernel_rfl))
          have q2' : v2 = _ := q2
          subst q2'
          have G32 := tmp_get s2 (by rw [hs1]; decide)
          refine wpOp_act rfl (by rfl) (fun K' hK' => ?_)
          go_simp
          exact hK' _ _ ⟨_, rfl, (fun _ _ => rfl), RB.refl _, T12.vac 3 (by decide) hny hB⟩
        · intro listed a W hf hun haf
          have hs1 : a.tmps.size = 102 := hf.alike.size.trans hsz
          have hB : Below w2.heap.size w2 W := hf.world.1
          have hny := not_yet hf.closed (n := 3) (e := 11) (i := 4) (by kernel_rfl) hun
          obtain ⟨v3, s3, q3⟩ := hf.slot 3 33 rfl (after_listed haf 3 (by kernel_rfl))
          have q3' : v3 = _ := q3
          subst q3'
          have G33 := tmp_get s3 (by rw [hs1]; decide)
          obtain ⟨p0, p1, p2, p3, p4, _, _⟩ := Hat2.out.grow lb2 hB
          have lW := Nat.lt_of_lt_of_le lb2 hB.size
          refine wpOp_act rfl (by rfl) (fun K' hK' => ?_)
          go_simp
          exact hK' _ _ ⟨_, rfl, (fun _ _ => rfl), RB.refl _, T12.vac 4 (by decide) hny hB⟩
        · intro listed a W hf hun haf
          have hs1 : a.tmps.size = 102 := hf.alike.size.trans hsz
          have hB : Below w2.heap.size w2 W := hf.world.1
          have hny := not_yet hf.closed (n := 3) (e := 11) (i := 5) (by kernel_rfl) hun
          obtain ⟨v4, s4, q4⟩ := hf.slot 4 34 rfl (after_listed haf 4 (by kernel_rfl))
          have q4' : v4 = _ := q4
          subst q4'
          have G34 := tmp_get s4 (by rw [hs1]; decide)
          refine wpOp_act rfl (by rfl) (fun K' hK' => ?_)
          go_simp
          exact hK' _ (W.alloc (.cells (edCells (.slice aa x.add.length ac) (.slice da x.drop.length dc) x.seq x.next x.wal) 31)) ⟨_, rfl, (fun _ _ => ⟨W.heap.size, rfl, heap_alloc_new _ _⟩), RB.grow (Grow.alloc _ _), T12.vac 5 (by decide) hny (hB.trans ((Grow.alloc _ _).mono hB.size))⟩
        · intro listed a W hf hun haf
          have hs1 : a.tmps.size = 102 := hf.alike.size.trans hsz
          have hB : Below w2.heap.size w2 W := hf.world.1
          have hny := not_yet hf.closed (n := 3) (e := 11) (i := 6) (by kernel_rfl) hun
          obtain ⟨v0, s0, q0⟩ := hf.slot 0 30 rfl (after_listed haf 0 (by kernel_rfl))
          have q0' : v0 = _ := q0
          subst q0'
          have G30 := tmp_get s0 (by rw [hs1]; decide)
          obtain ⟨v5, s5, q5⟩ := hf.slot 5 35 rfl (after_listed haf 5 (by kernel_rfl))
          obtain ⟨b5, q5, c5⟩ := q5
          have q5' : v5 = _ := q5
          subst q5'
          have G35 := tmp_get s5 (by rw [hs1]; decide)
          have hcall := Apply_any HA.out (V := V) (owns_grow Hinv2.out.own hB) (by have := Hinv2.out.len; omega) (edits_one (e := x) c5 (Hat2.out.adds.grow hB) (Hat2.out.drops.grow hB)) (by simp) (by simp [hxa2, hxd2])
          refine wpOp_call rfl (by rfl) (by go_simp) hcall ?_
          rintro e w7 ⟨v7, rfl, hown7, hg7⟩
          obtain ⟨ya, yc, rfl⟩ := own_slice hown7
          exact ⟨_, rfl, _, rfl, (fun _ _ => ⟨_, _, rfl, owns_mono hown7 hB.size⟩), RB.grow hg7, T12.vac 6 (by decide) hny (hB.trans (hg7.mono hB.size))⟩
        · intro listed a W hf hun haf
          have hs1 : a.tmps.size = 102 := hf.alike.size.trans hsz
          have hB : Below w2.heap.size w2 W := hf.world.1
          have hny := not_yet hf.closed (n := 3) (e := 11) (i := 7) (by kernel_rfl) hun
          obtain ⟨v6, s6, q6⟩ := hf.slot 6 36 rfl (after_listed haf 6 (by kernel_rfl))
          obtain ⟨ya, yc, q6, o6⟩ := q6
          have q6' : v6 = _ := q6
          subst q6'
          have G36 := tmp_get s6 (by rw [hs1]; decide)
          refine wpOp_act rfl (by rfl) (fun K' hK' => ?_)
          go_simp
          exact hK' _ _ ⟨_, rfl, (fun _ _ => ⟨_, _, rfl, o6⟩), RB.refl _, T12.vac 7 (by decide) hny hB⟩
        · intro listed a W hf hun haf
          have hs1 : a.tmps.size = 102 := hf.alike.size.trans hsz
          have hB : Below w2.heap.size w2 W := hf.world.1
          have hny := not_yet hf.closed (n := 3) (e := 11) (i := 8) (by kernel_rfl) hun
          obtain ⟨v7, s7, q7⟩ := hf.slot 7 29 rfl (after_listed haf 7 (by kernel_rfl))
          obtain ⟨ya, yc, q7, o7⟩ := q7
          have q7' : v7 = _ := q7
          subst q7'
          have G29 := tmp_get s7 (by rw [hs1]; decide)
          refine wpOp_act rfl (by rfl) (fun K' hK' => ?_)
          go_simp
          exact hK' _ _ ⟨_, rfl, (fun _ _ => ⟨_, _, rfl, o7⟩), RB.refl _, T12.vac 8 (by decide) hny hB⟩
        · intro listed a W hf hun haf
          have hs1 : a.tmps.size = 102 := hf.alike.size.trans hsz
          have hB : Below w2.heap.size w2 W := hf.world.1
          obtain ⟨v7, s7, q7⟩ := hf.slot 7 29 rfl (after_listed haf 7 (by kernel_rfl))
          obtain ⟨ya, yc, q7, o7⟩ := q7
          have q7' : v7 = _ := q7
          subst q7'
          have G29 := tmp_get s7 (by rw [hs1]; decide)
          refine wpOp_act rfl (by rfl) (fun K' hK' => ?_)
          go_simp
          exact hK' _ _ ⟨_, rfl, (fun _ _ => rfl), RB.refl _, T12.pure 9 38 _ (by decide) (by decide) hf.world⟩
        · intro listed a W hf hun haf
          have hs1 : a.tmps.size = 102 := hf.alike.size.trans hsz
          have hB : Below w2.heap.size w2 W := hf.world.1
          have hny := not_yet hf.closed (n := 3) (e := 11) (i := 10) (by kernel_rfl) hun
          refine wpOp_act rfl (by rfl) (fun K' hK' => ?_)
          go_simp
          exact hK' _ (W.alloc (.cells (verCells (.slice none 0 0) 0 0 0) 27)) ⟨_, rfl, (fun _ _ => ⟨W.heap.size, hB.size, rfl, _, _, _, _, heap_alloc_new _ _⟩), RB.grow (Grow.alloc _ _), T12.vac 10 (by decide) hny (hB.trans ((Grow.alloc _ _).mono hB.size))⟩
        · intro listed a W hf hun haf
          have hs1 : a.tmps.size = 102 := hf.alike.size.trans hsz
          have hB : Below w2.heap.size w2 W := hf.world.1
          obtain ⟨v8, s8, q8⟩ := hf.slot 8 37 rfl (after_listed haf 8 (by kernel_rfl))
          obtain ⟨ya, yc, q8, o8⟩ := q8
          have q8' : v8 = _ := q8
          subst q8'
          have G37 := tmp_get s8 (by rw [hs1]; decide)
          obtain ⟨v10, s10, q10⟩ := hf.slot 10 6 rfl (after_listed haf 10 (by kernel_rfl))
          obtain ⟨b9, l9, q10, x0, x1, x2, x3, c9⟩ := q10
          have q10' : v10 = _ := q10
          subst q10'
          have G6 := tmp_get s10 (by rw [hs1]; decide)
          obtain ⟨z0, z1, z2, z3⟩ := cells4 c9
          have lW := lt_of_getElem? c9
          have fy : ∀ i, W.frozen? ⟨b9, i, none⟩ = false := fun i => by simp [World.frozen?, c9]
          refine wpOp_act rfl (by rfl) (fun K' hK' => ?_)
          go_simp
          exact hK' _ _ ⟨undef, rfl, (fun _ h => by cases h), RB.set4 c9 _ _ _ _, set4_below hB l9 _ _ _ _, fun _ => ⟨_, s10, b9, ya, yc, rfl, l9, set4 c9 _ _ _ _, set4_own o8 c9 _ _ _ _⟩⟩
        · intro listed a W hf hun haf
          have hs1 : a.tmps.size = 102 := hf.alike.size.trans hsz
          have hB : Below w2.heap.size w2 W := hf.world.1
          obtain ⟨v9, s9, q9⟩ := hf.slot 9 38 rfl (after_listed haf 9 (by kernel_rfl))
          have q9' : v9 = _ := q9
          subst q9'
          have G38 := tmp_get s9 (by rw [hs1]; decide)
          refine wpOp_act rfl (by rfl) (fun K' hK' => ?_)
          go_simp
          exact hK' _ _ ⟨_, rfl, (fun _ _ => rfl), RB.refl _, T12.pure 12 7 _ (by decide) (by decide) hf.world⟩
      case rest =>
      obtain ⟨rfl, ⟨b6, ya, yc, rfl, l6, hbox6, hown6⟩, hg6⟩ := hcut
      have hinv6 := Hinv2.out.grow hg6
      have hone := applyAll_one V x
      have honce := applyD_once (v := V) (e := x) hinv6.once
      have hstrict := applyD_strict (v := V) (e := x) hinv6.once
      have hrl := applyD_len V x
      have hsn := fun h => applyAll_snoc (e := x) hinv6.all h
      generalize applyAllD V [x] = r at *
      generalize applyD V x = q at *
      obtain ⟨qc, qv⟩ := q
      dsimp only at hone honce hstrict hrl hsn
      by_cases hz : qc = 0
      · rw [if_pos hz] at hone
        subst hone hz
        dsimp only at hbox6 hown6 hsn ⊢
        have hbv := hinv6.box
        obtain ⟨x0, x1, x2, x3⟩ := cells4 hbox6
        have l7 := lt_of_getElem? hbox6
        obtain ⟨y0, y1, y2, y3⟩ := cells4 hbv
        have l8 := lt_of_getElem? hbv
        have fy : ∀ i, wc.frozen? ⟨vb, i, none⟩ = false := fun i => by simp [World.frozen?, hbv]
        have hg7 : Grow w ((((wc.setCell ⟨vb, 0, none⟩ (.slice ya qv.tabs.length yc)).setCell ⟨vb, 1, none⟩ (.int .u64 qv.seq)).setCell ⟨vb, 2, none⟩ (.int .i64 qv.next)).setCell ⟨vb, 3, none⟩ (.int .i64 qv.wal)) := set4_below hinv6.gr hvl _ _ _ _
        have hb7 := set4 hbv (.slice ya qv.tabs.length yc) (.int .u64 qv.seq) (.int .i64 qv.next) (.int .i64 qv.wal)
        have ho7 := set4_own (owns_mono hown6 Hinv2.out.gr.size) hbv (.slice ya qv.tabs.length yc) (.int .u64 qv.seq) (.int .i64 qv.next) (.int .i64 qv.wal)
        have ht7 := owns_set4 hinv6.tk.own hbv (by decide) (.slice ya qv.tabs.length yc) (.int .u64 qv.seq) (.int .i64 qv.next) (.int .i64 qv.wal)
        have hok := hinv6.tk.ok
        have hxl := hinv6.xl
        have hVl := hinv6.len
        have Hg7 := Lib.hid hg7
        have Hb7 := Lib.hid hb7
        have Ho7 := Lib.hid ho7
        have Ht7 := Lib.hid ht7
        have Hok := Lib.hid hok
        have Honce := Lib.hid honce
        have Hstrict := Lib.hid hstrict
        have Hsn := Lib.hid hsn
        clear hinv6 hbv hg7 hb7 ho7 ht7 hok honce hstrict hsn hbox6 hown6 hg6
        go_upto_region 17 with fail
        generalize (((wc.setCell ⟨vb, 0, none⟩ (.slice ya qv.tabs.length yc)).setCell ⟨vb, 1, none⟩ (.int .u64 qv.seq)).setCell ⟨vb, 2, none⟩ (.int .i64 qv.next)).setCell ⟨vb, 3, none⟩ (.int .i64 qv.wal) = w5 at *
        have hat5 := Hat0.out.grow hbl Hg7.out
        obtain ⟨p0, p1, p2, p3, p4, _, _⟩ := hat5
        have lb5 : b < w5.heap.size := Nat.lt_of_lt_of_le hbl Hg7.out.size
        obtain ⟨i0, hi0', hz0, hz1, hz2⟩ := info_parts Tryd.infoE
        have hnw : (w5.alloc (.cells (edCells (.slice aa x.add.length ac) (.slice da x.drop.length dc) x.seq x.next x.wal) 31)).heap[w5.heap.size]? = some (.cells (edCells (.slice aa x.add.length ac) (.slice da x.drop.length dc) x.seq x.next x.wal) 31 (0, 0)) := heap_alloc_new _ _
        obtain ⟨g8, cap8, w8, hrun8, hown8, hgr8, hloc8, hlt8⟩ := run_append_lies (P := Tryd.prog) (w5.alloc (.cells (edCells (.slice aa x.add.length ac) (.slice da x.drop.length dc) x.seq x.next x.wal) 31)) 22 22 w.heap.size 31 i0 _ 5 72 Tryd.underlying22 hi0' hz0 hz1 hz2 rfl (by decide) _ _ _ (Ht7.out.alloc _)
          ⟨w5.heap.size, 0, none⟩ 1 1 (encE (.slice aa x.add.length ac, .slice da x.drop.length dc, x)) rfl (fun j u hu => World.news_of_block hnw j u (by simpa [encE] using hu)) (fun u hu => by simp only [encE, List.mem_cons, List.not_mem_nil, or_false] at hu; rcases hu with rfl | rfl | rfl | rfl | rfl <;> rfl) (by decide) (by unfold maxLen; omega) (by omega) (by simp; have := Hg7.out.size; omega) _ rfl
        have hga : Grow w5 (w5.alloc (.cells (edCells (.slice aa x.add.length ac) (.slice da x.drop.length dc) x.seq x.next x.wal) 31)) := Grow.alloc _ _
        have hb8 := hga.heap Hb7.out
        have Hrel : Hid (StepInv w vb es.length (.slice (some ⟨g8, 0, none⟩) (xs.length + 1) cap8) (.int .i64 ((i + 1 : Nat) : Int)) w8) := Lib.hid (by
          refine ⟨i + 1, .slice ya qv.tabs.length yc, qv, xs ++ [(.slice aa x.add.length ac, .slice da x.drop.length dc, x)], rfl, hlt, ?_, ?_, ⟨?_, ?_⟩, by simp; omega, ?_, Honce.out, Hstrict.out, by omega, ?_⟩
          · rw [hgr8.block _ (lt_of_getElem? hb8) (box_apart (Ht7.out.alloc _) hb8 (by decide))]; exact hb8
          · exact (owns_grow Ho7.out hga).kept hgr8 (rows_apart (owns_grow Ho7.out hga) (Ht7.out.alloc _) (by decide))
          · have e1 : (xs ++ [((.slice aa x.add.length ac, .slice da x.drop.length dc, x) : Tx)]).flatMap encE = xs.flatMap encE ++ encE (.slice aa x.add.length ac, .slice da x.drop.length dc, x) := by simp
            rw [List.length_append, e1]
            exact hown8
          · intro y hy
            rcases List.mem_append.1 hy with h1 | h1
            · exact Hok.out y h1
            · obtain rfl := List.mem_singleton.1 h1
              exact ⟨Hat0.out.adds, Hat0.out.drops, hxa2, hxd2⟩
          · rw [List.map_append]; exact Hsn.out rfl
          · exact (Hg7.out.trans hga).grown hgr8 (Hg7.out.trans hga).size (fun k hk => (Ht7.out.lt k hk).1))
        have Hrun8 := Lib.hid hrun8
        clear hi0' hz0 hz1 hz2 hnw hrun8 hown8 hgr8 hloc8 hlt8 hga hb8 x0 x1 x2 x3 y0 y1 y2 y3
        go_wp2_with (at_builtin; refine wpList_append rfl rfl rfl rfl Hrun8.out ?_)
        go_roundw
        case rel => exact Hrel.out
        case measure => simp [intOf]; omega
      · rw [if_neg hz] at hone
        subst hone
        dsimp only [verZero] at hbox6
        have hb1 : (qc != 0) = true := by simpa using hz
        obtain ⟨x0, x1, x2, x3⟩ := cells4 hbox6
        have l7 := lt_of_getElem? hbox6
        have Hinv6 := Lib.hid hinv6.next
        clear hinv6 hbox6 hown6 hg6 honce hstrict hrl hsn
        go_wp2
        go_roundw
        case rel => exact ⟨i + 1, _, V, xs, rfl, hlt, Hinv6.out⟩
        case measure => simp [intOf]; omega
    · obtain rfl : i = es.length := by omega
      have hed := hinv.tk.edits hinv.gr
      have hcall := Apply_any HA.out (B := 0) (V := verZero) (World.ownsRow_nil _ _ _ _) (by decide) hed (by simp; have := hinv.xl; omega) (fun e he => by
        obtain ⟨y, hy, rfl⟩ := List.mem_map.1 he
        exact ⟨(hinv.tk.ok y hy).2.2.1, (hinv.tk.ok y hy).2.2.2⟩)
      rw [hinv.all] at hcall
      dsimp only [verZero] at hcall
      have Hcall := Lib.hid hcall
      have Hinv := Lib.hid hinv
      clear hcall hed hinv
      go_wp2_with fail
      (with_reducible refine Hcall.out.mono ?_)
      rintro e w3 ⟨v3, rfl, hown3, hg3⟩
      dsimp only at hown3 ⊢
      have hinv3 := Hinv.out.grow hg3
      obtain ⟨ya, yc, rfl⟩ := own_slice hown3
      obtain ⟨va, vc, rfl⟩ := own_slice hinv3.own
      have hga : Grow w3 (w3.alloc (.cells (verCells (.slice ya V.tabs.length yc) V.seq V.next V.wal) 27)) := Grow.alloc _ _
      have hnb : (w3.alloc (.cells (verCells (.slice ya V.tabs.length yc) V.seq V.next V.wal) 27)).heap[w3.heap.size]? = some (.cells (verCells (.slice ya V.tabs.length yc) V.seq V.next V.wal) 27 (0, 0)) := heap_alloc_new _ _
      have hinv4 := hinv3.grow hga
      have hVl : V.tabs.length < 1000000000 := by have := hinv4.len; omega
      have hsame := same_version (V := V) hinv4.own (owns_grow hown3 hga) hVl
      have hstrict := hinv4.strict
      obtain ⟨y0, y1, y2, y3⟩ := cells4 hinv4.box
      have l4 := lt_of_getElem? hinv4.box
      have l3 := lt_of_getElem? hinv3.box
      obtain ⟨z0, z1, z2, z3⟩ := cells4 hnb
      obtain ⟨o0, o1, o2, o3⟩ := cells4 hinv3.box
      have Hinv4 := Lib.hid hinv4
      have Hsame := Lib.hid hsame
      have Hstrict := Lib.hid hstrict
      clear hinv3 hinv4 hnb hsame hown3 hga hstrict hg3 Hinv
      go_wp2_with fail
      generalize w3.alloc (.cells (verCells (.slice ya V.tabs.length yc) V.seq V.next V.wal) 27) = w4 at *
      (with_reducible refine Hsame.out.mono ?_)
      rintro e w5 ⟨rfl, hg5⟩
      have hinv5 := Hinv4.out.grow hg5
      have hrd := own_read hinv5.own
      have hbox5 := hinv5.box
      have Hgr5 := Lib.hid hinv5.gr
      have hcl := Grow.cells (w := w5)
      obtain ⟨a5, c5, ha5, hrd⟩ := hrd
      cases ha5
      have Hrd := Lib.hid hrd
      clear y0 y1 y2 y3 z0 z1 z2 z3 o0 o1 o2 o3 Hinv4 Hsame hinv5 hrd l4 l3
      obtain ⟨y0, y1, y2, y3⟩ := cells4 hbox5
      have l5 := lt_of_getElem? hbox5
      clear hbox5 hg5
      go_wp2_with fail
      go_loopw [10] (fun iv wr => LastInv w5 V.tabs.length iv wr) (fun iv _ => V.tabs.length - (intOf iv).toNat)
      case atStart => exact ⟨1, rfl, Nat.le_refl _, .inr rfl, Grow.refl _⟩
      case round =>
        obtain ⟨j, rfl, hj1, hj, hg⟩ := hrel
        have d0 := hcl wr vb 0 hg l5
        rw [y0] at d0
        have lw : vb < wr.heap.size := Nat.lt_of_lt_of_le l5 hg.size
        by_cases hlt : j < V.tabs.length
        · obtain ⟨k, hjk⟩ : ∃ k, j = k + 1 := ⟨j - 1, by omega⟩
          have hpair : ltT (V.tabs[k]'(by omega)) (V.tabs[j]'hlt) := List.pairwise_iff_getElem.1 Hstrict.out k j (by omega) hlt (by omega)
          obtain ⟨g, rfl, hgl, hc⟩ := Hrd.out (by omega)
          obtain ⟨p0, p1, p2, p3, p4⟩ := hc k _ (List.getElem?_eq_getElem (by omega))
          obtain ⟨q0, q1, q2, q3, q4⟩ := hc j _ (List.getElem?_eq_getElem hlt)
          generalize V.tabs[k]'(by omega) = ta at *
          generalize V.tabs[j]'hlt = tb at *
          have hcf := (cfTb_neg ta tb).2 hpair
          have hcmp : ∀ W, Calls Tryd.prog 8 #[.agg #[.int .i64 ta.file, .int .i64 ta.level, .string ta.first, .string ta.last, .int .i64 ta.size], .agg #[.int .i64 tb.file, .int .i64 tb.level, .string tb.first, .string tb.last, .int .i64 tb.size]] W fun e w' => e = .returned (.int .i64 (cfTb ta tb)) ∧ ∃ q os', w' = Sort.grow (W.drewN q) os' := fun W => compare_any ta tb W
          obtain ⟨b0, b1, b2, b3, b4⟩ := tb
          obtain ⟨a0, a1, a2, a3, a4⟩ := ta
          dsimp only at p0 p1 p2 p3 p4 q0 q1 q2 q3 q4 hcmp
          generalize cfTb ⟨a0, a1, a2, a3, a4⟩ ⟨b0, b1, b2, b3, b4⟩ = cc at *
          have hge : decide ((0 : Int) ≤ cc) = false := by simpa using hcf
          have hi0 : (0 : Int) ≤ (j : Int) := by omega
          have hi1 : (j : Int) < (V.tabs.length : Int) := by omega
          have hk0 : (0 : Int) ≤ (k : Int) := by omega
          have hk1 : (k : Int) < (V.tabs.length : Int) := by omega
          have hw : IntKind.i64.wrap ((j : Int) - 1) = (k : Int) := by rw [IntWalk.i64_in _ (by omega)]; omega
          have Hjk := Lib.hid hjk
          have Hcmp := Lib.hid hcmp
          have Hg := Lib.hid hg
          clear hc hpair hcf hcmp hg hjk
          have lg := hgl
          go_upto_region 24 with fail
          clear d0
          refine wp_region_pi (fun W => Below w5.heap.size w5 W) [(0, false), (1, false), (2, false), (3, false), (4, false), (5, false), (6, false), (7, false), (8, false), (9, false), (10, false), (11, true), (12, false)] (by kernel_rfl) (by kernel_rfl) (fun c a d v w h => by cases d <;> exact h) (Hg.out.trans (Grow.drew _)) ?_
          simp only [arrange, nth]
          repeat (first | (refine wpPi_quiet (v := ?_) (by rfl) (fun W hW => ?_) ?_; rotate_left; (obtain hW := hW; go_simp; with_reducible rfl); simp only [Act.put, List.setIfInBounds_toArray, List.set_cons_zero, List.set_cons_succ]) | (refine wpPi_off (by rfl) ?_; simp only [Act.put, List.setIfInBounds_toArray, List.set_cons_zero, List.set_cons_succ]))
          refine wpPi_call (by rfl) (by go_simp) (Hcmp.out _) ?_
          rintro e w7 ⟨rfl, hgx⟩
          have hg7 := (Hg.out.trans (Grow.drew _)).trans (grow_of hgx)
          clear hgx
          refine ⟨_, rfl, hg7, ?_⟩
          try simp only [Act.put, List.setIfInBounds_toArray, List.set_cons_zero, List.set_cons_succ]
          repeat (first | (refine wpPi_quiet (v := ?_) (by rfl) (fun W hW => ?_) ?_; rotate_left; (obtain hW := hW; go_simp; with_reducible rfl); simp only [Act.put, List.setIfInBounds_toArray, List.set_cons_zero, List.set_cons_succ]) | (refine wpPi_off (by rfl) ?_; simp only [Act.put, List.setIfInBounds_toArray, List.set_cons_zero, List.set_cons_succ]))
          refine wpPi_nil ?_
          go_wp2
          go_roundw
          case rel => exact ⟨j + 1, rfl, by omega, .inl hlt, hg7⟩
          case measure => simp [intOf]; omega
        · have hle : (V.tabs.length : Int) ≤ (j : Int) := by omega
          go_wp2
          go_ret
          exact ⟨rfl, Hgr5.out.trans hg⟩
end Go.Proofs.YtpdbjmodgiokmaaDoor
