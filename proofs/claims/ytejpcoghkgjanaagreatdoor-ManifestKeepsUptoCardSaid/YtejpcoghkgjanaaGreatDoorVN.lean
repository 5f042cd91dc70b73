/- Merged out of K7: helpers. -/
import Derived.Test.YtejpcoghkgjanaaGreatDoorVM
import Derived.Test.YtejpcoghkgjanaaGreatDoorVJ
import Derived.Test.YtejpcoghkgjanaaGreatDoorVA
/- The two closures of manifest.Decode. -/
namespace Go.Proofs.YtejpcoghkgjanaaGreatDoor
open Go.RowKit Go.Gl Go.Wal Mn

/-- A row of numbers of one's own. -/
abbrev OwnN (B : Nat) (w : World) (v : Value) (l : List Int) : Prop := Go.Gl.Row1 3 B w v (l.map (fun n => Value.int .i64 n))

/-- What Decode has, while it reads: the reader, its box, what came out yet. -/
structure DecS (w0 W : World) (xb rb ob : Nat) (l : List UInt8) (tv dv : Value) (tl : List Tb) (dl : List Int) : Prop where
  rdr : Rdr w0 W rb l
  box : W.heap[xb]? = some (.cells #[.pointer (some ⟨rb, 0, none⟩)] 117 (0, 0))
  out : W.heap[ob]? = some (.cells (edCells tv dv 0 0 0) 41 (0, 0))
  tabs : Own w0.heap.size W tv tl
  drops : OwnN w0.heap.size W dv dl
  nx : w0.heap.size ≤ xb
  no : w0.heap.size ≤ ob
  res : W.heap[w0.heap.size]? = some (.cells (edCells (.slice none 0 0) (.slice none 0 0) 0 0 0) 41 (0, 0))
  nq : w0.heap.size ≠ ob

theorem DecS.cell {w0 W : World} {xb rb ob : Nat} {l : List UInt8} {tv dv : Value} {tl : List Tb} {dl : List Int} (h : DecS w0 W xb rb ob l tv dv tl dl) : W.cell? ⟨xb, 0, none⟩ = some (.pointer (some ⟨rb, 0, none⟩)) ∧ xb < W.heap.size :=
  ⟨by simp [World.cell?, h.box], lt_of_getElem? h.box⟩

theorem ne_type {W : World} {b c : Nat} {arr arr' : Array Value} {t t' : TypeId} {f f' : Nat × Nat} (h : W.heap[b]? = some (.cells arr t f)) (h' : W.heap[c]? = some (.cells arr' t' f')) (hn : t ≠ t') : b ≠ c := fun e => by
  subst e; rw [h] at h'; cases h'; exact hn rfl

/-- Own rows of tables stay where their block stays. -/
theorem own_block_keep {B : Nat} {w w' : World} {v : Value} {l : List Tb} (h : Own B w v l) (hk : ∀ g, v.ownBlock = some g → w'.heap[g]? = w.heap[g]?) : Own B w' v l := by
  refine ⟨h.1, ?_⟩
  rcases h.2 with h1 | ⟨g, cap, cur, h1, h2, h3, h4⟩
  · exact .inl h1
  · exact .inr ⟨g, cap, cur, h1, h2, by rw [hk g (by rw [h1]; rfl)]; exact h3, h4⟩

theorem own_at {B : Nat} {w : World} {v : Value} {l : List Tb} (h : Own B w v l) {g : Nat} (hg : v.ownBlock = some g) : ∃ cur, w.heap[g]? = some (.cells cur 51 (0, 0)) ∧ B ≤ g := by
  rcases h.2 with ⟨rfl, _⟩ | ⟨g', cap, cur, rfl, h2, h3, h4⟩
  · cases hg
  · cases hg; exact ⟨cur, h3, h2⟩

theorem DecS.step {w0 W W' : World} {xb rb ob : Nat} {l l' : List UInt8} {tv dv : Value} {tl : List Tb} {dl : List Int} (h : DecS w0 W xb rb ob l tv dv tl dl) (hr : Rdr w0 W' rb l') (hG : GX rb W W') : DecS w0 W' xb rb ob l' tv dv tl dl := by
  obtain ⟨bv, h1, _⟩ := h.rdr.cell
  have ne : ∀ {b : Nat} {arr : Array Value} {t : TypeId} {f : Nat × Nat}, W.heap[b]? = some (.cells arr t f) → t ≠ 119 → b ≠ rb := fun hb ht e => by
    subst e; rw [h1] at hb; cases hb; exact ht rfl
  refine ⟨hr, hG.heap h.box (ne h.box (by decide)), hG.heap h.out (ne h.out (by decide)), own_block_keep h.tabs fun g hg => ?_, h.drops.keep fun g hg => ?_, h.nx, h.no, hG.heap h.res (ne h.res (by decide)), h.nq⟩
  · obtain ⟨cur, hc, _⟩ := own_at h.tabs hg
    rw [hG.heap hc (ne hc (by decide)), hc]
  · obtain ⟨cur, hc⟩ := h.drops.block hg
    rw [hG.heap hc (ne hc (by decide)), hc]

theorem DecS.grow {w0 W W' : World} {xb rb ob : Nat} {l : List UInt8} {tv dv : Value} {tl : List Tb} {dl : List Int} (h : DecS w0 W xb rb ob l tv dv tl dl) (hg : Grow W W') : DecS w0 W' xb rb ob l tv dv tl dl :=
  h.step (h.rdr.grow' hg) (GX.of hg)

/-- Blocks of tables stay blocks of tables. -/
def RDa (W W' : World) : Prop := ∀ (b : Nat) (cs : Array Value), W.heap[b]? = some (.cells cs 51 (0, 0)) → cs.size = 5 → ∃ cs' : Array Value, W'.heap[b]? = some (.cells cs' 51 (0, 0)) ∧ cs'.size = 5
theorem RDa.refl (W : World) : RDa W W := fun _ cs h hs => ⟨cs, h, hs⟩
theorem RDa.grow {W W' : World} (h : Grow W W') : RDa W W' := fun _ cs hb hs => ⟨cs, h.heap hb, hs⟩
theorem RDa.gx {W W' : World} {rb : Nat} {arr : Array Value} {f : Nat × Nat} (h1 : W.heap[rb]? = some (.cells arr 119 f)) (h : GX rb W W') : RDa W W' := fun b cs hb hs =>
  ⟨cs, h.heap hb (fun e => by subst e; rw [h1] at hb; cases hb), hs⟩

theorem arr5 {cs : Array Value} (hs : cs.size = 5) : ∃ x0 x1 x2 x3 x4, cs = #[x0, x1, x2, x3, x4] := by
  obtain ⟨l⟩ := cs
  match l, hs with
  | [x0, x1, x2, x3, x4], _ => exact ⟨_, _, _, _, _, rfl⟩

abbrev tabSet (W : World) (b : Nat) (y0 y1 y2 y3 y4 : Value) : World := ((((W.setCell ⟨b, 0, none⟩ y0).setCell ⟨b, 1, none⟩ y1).setCell ⟨b, 2, none⟩ y2).setCell ⟨b, 3, none⟩ y3).setCell ⟨b, 4, none⟩ y4

/-- A table stored into its block: five cells. -/
theorem setTab {W : World} {b : Nat} {cs : Array Value} (h : W.heap[b]? = some (.cells cs 51 (0, 0))) (hs : cs.size = 5) (y0 y1 y2 y3 y4 : Value) :
    (((((W.setCell ⟨b, 0, none⟩ y0).setCell ⟨b, 1, none⟩ y1).setCell ⟨b, 2, none⟩ y2).setCell ⟨b, 3, none⟩ y3).setCell ⟨b, 4, none⟩ y4).heap[b]? = some (.cells #[y0, y1, y2, y3, y4] 51 (0, 0)) := by
  obtain ⟨l⟩ := cs
  match l, hs with
  | [x0, x1, x2, x3, x4], _ => exact Go.Gl.setCell_heap (Go.Gl.setCell_heap (Go.Gl.setCell_heap (Go.Gl.setCell_heap (Go.Gl.setCell_heap h 0 y0) 1 y1) 2 y2) 3 y3) 4 y4

theorem setTab_other {W : World} {b c : Nat} (h : c ≠ b) (y0 y1 y2 y3 y4 : Value) :
    (((((W.setCell ⟨b, 0, none⟩ y0).setCell ⟨b, 1, none⟩ y1).setCell ⟨b, 2, none⟩ y2).setCell ⟨b, 3, none⟩ y3).setCell ⟨b, 4, none⟩ y4).heap[c]? = W.heap[c]? := by
  rw [Below.heap_setCell _ _ _ _ h, Below.heap_setCell _ _ _ _ h, Below.heap_setCell _ _ _ _ h, Below.heap_setCell _ _ _ _ h, Below.heap_setCell _ _ _ _ h]

theorem DecS.tab {w0 W W' : World} {xb rb ob : Nat} {l : List UInt8} {tv dv : Value} {tl : List Tb} {dl : List Int} (h : DecS w0 W xb rb ob l tv dv tl dl) {tb : Nat} {cs : Array Value} {f : Nat × Nat} (hb : W.heap[tb]? = some (.cells cs 51 f)) (hn : w0.heap.size ≤ tb) (ho : tv.ownBlock ≠ some tb)
    (hg : w0.heap.size ≤ W'.heap.size) (hos : W'.os = w0.os ∧ W'.tape = w0.tape ∧ W'.output = w0.output) (hk : ∀ c, c ≠ tb → W'.heap[c]? = W.heap[c]?) : DecS w0 W' xb rb ob l tv dv tl dl := by
  obtain ⟨bv, h1, h2⟩ := h.rdr.cell
  have ne : ∀ {b : Nat} {arr : Array Value} {t : TypeId} {f : Nat × Nat}, W.heap[b]? = some (.cells arr t f) → t ≠ 51 → b ≠ tb := fun h1 ht e => by
    subst e; rw [hb] at h1; cases h1; exact ht rfl
  refine ⟨⟨⟨bv, by rw [hk _ (ne h1 (by decide))]; exact h1, h2⟩, ⟨hos.1, hos.2.1, hos.2.2, hg, fun b hbl => by rw [hk b (by omega)]; exact h.rdr.grow.block b hbl⟩, h.rdr.new⟩, by rw [hk _ (ne h.box (by decide))]; exact h.box, by rw [hk _ (ne h.out (by decide))]; exact h.out, own_block_keep h.tabs fun g hg' => hk g (fun e => ho (by rw [hg', e])), h.drops.keep fun g hg' => ?_, h.nx, h.no, by rw [hk _ (ne h.res (by decide))]; exact h.res, h.nq⟩
  obtain ⟨cur, hc⟩ := h.drops.block hg'
  exact hk g (ne hc (by decide))

/-- 'append' of one table. -/
theorem append_tab {B : Nat} {w : World} {v : Value} {l : List Tb} (h : Own B w v l) (hB : B ≤ w.heap.size) (hl : l.length ≤ 70000) (f0 f1 : Int) (f2 f3 : ByteArray) (f4 : Int) :
    ∃ g cap w', (Builtin.append_ #[35, 35] 35 #[v, .slice (some ⟨w.heap.size, 0, none⟩) 1 1]).run Tryz.prog (w.alloc (.cells #[.int .i64 f0, .int .i64 f1, .string f2, .string f3, .int .i64 f4] 51)) = .ok (.slice (some ⟨g, 0, none⟩) (l.length + 1) cap) w' ∧
      Own B w' (.slice (some ⟨g, 0, none⟩) (l.length + 1) cap) (l ++ [⟨f0, f1, f2, f3, f4⟩]) ∧ w.grownBy w' v.ownBlock := by
  obtain ⟨i0, hi0, hz0, hz1, hz2⟩ := info_parts Tryz.infoT
  have hnw : (w.alloc (.cells #[.int .i64 f0, .int .i64 f1, .string f2, .string f3, .int .i64 f4] 51)).heap[w.heap.size]? = some (.cells #[.int .i64 f0, .int .i64 f1, .string f2, .string f3, .int .i64 f4] 51 (0, 0)) := heap_alloc_new _ _
  obtain ⟨g, cap, w', hrun, hown, hgr, _, _⟩ := run_append_lies (P := Tryz.prog) (w.alloc (.cells #[.int .i64 f0, .int .i64 f1, .string f2, .string f3, .int .i64 f4] 51)) 35 35 B 51 i0 _ 5 56 Tryz.underlying35 hi0 hz0 hz1 hz2 rfl (by decide) _ _ _ (owns_grow h (Grow.alloc _ _))
    ⟨w.heap.size, 0, none⟩ 1 1 (encTb ⟨f0, f1, f2, f3, f4⟩) rfl (fun j u hu => World.news_of_block hnw j u (by simpa [encTb] using hu)) (encOne _) (by decide) (by unfold maxLen; omega) (by omega) (by simp; omega) _ rfl
  refine ⟨g, cap, w', hrun, ?_, ?_⟩
  · have etc : tcells (l ++ [(⟨f0, f1, f2, f3, f4⟩ : Tb)]) = tcells l ++ encTb ⟨f0, f1, f2, f3, f4⟩ := by simp [tcells]
    show w'.ownsRow B 51 5 _ (l ++ [(⟨f0, f1, f2, f3, f4⟩ : Tb)]).length _
    rw [List.length_append, etc]
    exact hown
  · obtain ⟨a, b, c, d, e⟩ := hgr
    exact ⟨a, b, c, Nat.le_trans (by simp) d, fun k hk hn => by rw [e k (by simp; omega) hn]; exact heap_alloc_old _ _ hk⟩

/-- A table more. -/
theorem DecS.more {w0 W W' : World} {xb rb ob : Nat} {l : List UInt8} {tv dv v' : Value} {tl tl' : List Tb} {dl : List Int} (h : DecS w0 W xb rb ob l tv dv tl dl) (hg : W.grownBy W' tv.ownBlock) (ho : Own w0.heap.size W' v' tl') : DecS w0 (W'.setCell ⟨ob, 0, none⟩ v') xb rb ob l v' dv tl' dl := by
  obtain ⟨bv, h1, h2⟩ := h.rdr.cell
  obtain ⟨ga, gb, gc, gd, ge⟩ := hg
  have keep : ∀ {b : Nat} {arr : Array Value} {t : TypeId} {f : Nat × Nat}, W.heap[b]? = some (.cells arr t f) → t ≠ 51 → W'.heap[b]? = some (.cells arr t f) := fun {b arr t f} hb ht => by
    rw [ge b (lt_of_getElem? hb) (fun e => ?_)]
    · exact hb
    · obtain ⟨cur, hc, _⟩ := own_at h.tabs e.symm
      rw [hb] at hc; cases hc; exact ht rfl
  have hob := keep h.out (by decide)
  have ne : ∀ {b : Nat} {arr : Array Value} {t : TypeId} {f : Nat × Nat}, W'.heap[b]? = some (.cells arr t f) → t ≠ 41 → (W'.setCell ⟨ob, 0, none⟩ v').heap[b]? = some (.cells arr t f) := fun {b arr t f} hb ht => by
    rw [Below.heap_setCell _ _ _ _ (fun e => ?_)]
    · exact hb
    · have e' : b = ob := e
      subst e'; rw [hb] at hob; cases hob; exact ht rfl
  have hgr := h.rdr.grow
  refine ⟨⟨⟨bv, ne (keep h1 (by decide)) (by decide), h2⟩, ⟨ga.trans hgr.os, gb.trans hgr.tape, gc.trans hgr.output, by simp; exact Nat.le_trans hgr.size gd, fun b hb => ?_⟩, h.rdr.new⟩, ne (keep h.box (by decide)) (by decide), Go.Gl.setCell_heap hob 0 v', own_block_keep ho fun g hg' => ?_, h.drops.keep fun g hg' => ?_, h.nx, h.no, (Below.heap_setCell _ _ _ _ (fun e => h.nq e)).trans (keep h.res (by decide)), h.nq⟩
  · rw [Below.heap_setCell _ _ _ _ (fun e => by have e' : b = ob := e; have := h.no; omega), ge b (Nat.lt_of_lt_of_le hb hgr.size) (fun e => by obtain ⟨cur, _, hB⟩ := own_at h.tabs e.symm; omega)]
    exact hgr.block b hb
  · obtain ⟨cur, hc, _⟩ := own_at ho hg'
    rw [ne hc (by decide), hc]
  · obtain ⟨cur, hc⟩ := h.drops.block hg'
    rw [ne (keep hc (by decide)) (by decide), hc]

def SDa (B rb : Nat) (own : Option Nat) (t : Tb) (j : Nat) (v : Value) (W : World) : Prop :=
  match j with
  | 0 => v = .pointer (some ⟨rb, 0, none⟩)
  | 1 => v = .int .i64 t.file
  | 2 => v = .pointer (some ⟨rb, 0, none⟩)
  | 3 => v = .int .i64 t.level
  | 4 => v = .pointer (some ⟨rb, 0, none⟩)
  | 5 => v = .string t.first
  | 6 => v = .pointer (some ⟨rb, 0, none⟩)
  | 7 => v = .string t.last
  | 8 => v = .agg #[.int .i64 t.file, .int .i64 t.level, .string t.first, .string t.last, .int .i64 0]
  | 9 => ∃ (tb : Nat) (cs : Array Value), v = .pointer (some ⟨tb, 0, none⟩) ∧ B ≤ tb ∧ own ≠ some tb ∧ W.heap[tb]? = some (.cells cs 51 (0, 0)) ∧ cs.size = 5
  | _ => True

theorem SDa.keep {B rb : Nat} {own : Option Nat} {t : Tb} : ∀ (j : Nat) (v : Value) (W W' : World), RDa W W' → SDa B rb own t j v W → SDa B rb own t j v W' := by
  intro j v W W' hR h
  unfold SDa at h
  split at h <;> first
    | exact h
    | (obtain ⟨tb, cs, h1, h2, h3, h4, h5⟩ := h; obtain ⟨cs', h6, h7⟩ := hR _ _ h4 h5; exact ⟨tb, cs', h1, h2, h3, h6, h7⟩)
    | (unfold SDa; split <;> first | trivial | (exfalso; simp_all))

/-- What is left to read behind the calls that have run. -/
def stA (r0 r1 r2 r3 r4 : List UInt8) (l : Array Bool) : List UInt8 :=
  if l.getD 7 false = true then r4 else if l.getD 5 false = true then r3 else if l.getD 3 false = true then r2 else if l.getD 1 false = true then r1 else r0

theorem stA_other {r0 r1 r2 r3 r4 : List UInt8} {l : Array Bool} (i : Nat) (h1 : i ≠ 1) (h3 : i ≠ 3) (h5 : i ≠ 5) (h7 : i ≠ 7) : stA r0 r1 r2 r3 r4 (l.setIfInBounds i true) = stA r0 r1 r2 r3 r4 l := by
  unfold stA
  rw [getD_set_ne false h1, getD_set_ne false h3, getD_set_ne false h5, getD_set_ne false h7]

/-- What has not been listed, both ways. -/
theorem unlisted {l : Array Bool} {i : Nat} (hi : i < l.size) (h : l.getD i true = false) : l.getD i false = false := by
  simp only [Array.getD, hi, dif_pos] at h ⊢; exact h

def TDa (w0 : World) (xb rb ob : Nat) (r0 r1 r2 r3 r4 : List UInt8) (tv dv : Value) (tl : List Tb) (dl : List Int) (t : Tb) (l : Array Bool) (a : Act) (W : World) : Prop :=
  DecS w0 W xb rb ob (stA r0 r1 r2 r3 r4 l) tv dv tl dl ∧
  (l.getD 10 false = true → ∃ tb : Nat, a.tmps[2]? = some (.pointer (some ⟨tb, 0, none⟩)) ∧ w0.heap.size ≤ tb ∧ tv.ownBlock ≠ some tb ∧ W.heap[tb]? = some (.cells #[.int .i64 t.file, .int .i64 t.level, .string t.first, .string t.last, .int .i64 0] 51 (0, 0)))

theorem TDa.vac {w0 : World} {xb rb ob : Nat} {r0 r1 r2 r3 r4 l' : List UInt8} {tv dv : Value} {tl : List Tb} {dl : List Int} {t : Tb} {l : Array Bool} {a' : Act} {W' : World} (i : Nat) (hi : i ≠ 10) (hny : l.getD 10 false = false)
    (hs : stA r0 r1 r2 r3 r4 (l.setIfInBounds i true) = l') (h : DecS w0 W' xb rb ob l' tv dv tl dl) : TDa w0 xb rb ob r0 r1 r2 r3 r4 tv dv tl dl t (l.setIfInBounds i true) a' W' :=
  ⟨by rw [hs]; exact h, fun h => by rw [getD_set_ne false hi, hny] at h; cases h⟩

set_option maxRecDepth 100000 in
set_option maxHeartbeats 4000000 in
theorem decA_any {w0 W : World} {xb rb ob : Nat} {r : List UInt8} {tv dv : Value} {tl : List Tb} {dl : List Int} {t : Tb} (ht : TabFit t) (h : DecS w0 W xb rb ob (tabB t ++ r) tv dv tl dl) (hr : r.length ≤ 800000000000) (htl : tl.length ≤ 70000) :
    Calls Tryz.prog 68 #[.pointer (some ⟨xb, 0, none⟩), .pointer (some ⟨ob, 0, none⟩)] W fun e w' => e = .returned (.tuple #[]) ∧ ∃ tv', DecS w0 w' xb rb ob r tv' dv (tl ++ [t]) dl := by
  obtain ⟨r4, hr4⟩ : ∃ x, x = numD t.size.toNat ++ r := ⟨_, rfl⟩
  obtain ⟨r3, hr3⟩ : ∃ x, x = bytesD t.last.data.toList ++ r4 := ⟨_, rfl⟩
  obtain ⟨r2, hr2⟩ : ∃ x, x = bytesD t.first.data.toList ++ r3 := ⟨_, rfl⟩
  obtain ⟨r1, hr1⟩ : ∃ x, x = numD t.level.toNat ++ r2 := ⟨_, rfl⟩
  obtain ⟨r0, hr0⟩ : ∃ x, x = numD t.file.toNat ++ r1 := ⟨_, rfl⟩
  have he : tabB t ++ r = r0 := by rw [hr0, hr1, hr2, hr3, hr4]; simp [tabB, List.append_assoc]
  rw [he] at h
  have f1 : t.first.data.toList.length ≤ 67108864 := by rw [Array.length_toList]; exact ht.first
  have f2 : t.last.data.toList.length ≤ 67108864 := by rw [Array.length_toList]; exact ht.last
  have b5 := numD_len t.size.toNat
  have b4 := numD_len t.last.data.toList.length
  have b3 := numD_len t.first.data.toList.length
  have b2 := numD_len t.level.toNat
  have l4 : r4.length ≤ 900000000000 := by rw [hr4]; simp only [List.length_append]; omega
  have l3 : r3.length ≤ 900000000000 := by rw [hr3, hr4]; simp only [List.length_append, bytesD]; omega
  have l2 : r2.length ≤ 900000000000 := by rw [hr2, hr3, hr4]; simp only [List.length_append, bytesD]; omega
  have l1 : r1.length ≤ 900000000000 := by rw [hr1, hr2, hr3, hr4]; simp only [List.length_append, bytesD]; omega
  obtain ⟨c0, lx⟩ := h.cell
  have H := Lib.hid h
  have Ht := Lib.hid ht
  have Hr0 := Lib.hid hr0
  have Hr1 := Lib.hid hr1
  have Hr2 := Lib.hid hr2
  have Hr3 := Lib.hid hr3
  have Hr4 := Lib.hid hr4
  clear h ht he hr0 hr1 hr2 hr3 hr4 b2 b3 b4 b5
  go_enter Tryz.func68, Tryz.ntmps68
  go_wp2_with fail
  go_cut [2] from 3 to 11 (fun pv wx => ∃ tb : Nat, pv = .pointer (some ⟨tb, 0, none⟩) ∧ w0.heap.size ≤ tb ∧ tv.ownBlock ≠ some tb ∧ wx.heap[tb]? = some (.cells #[.int .i64 t.file, .int .i64 t.level, .string t.first, .string t.last, .int .i64 0] 51 (0, 0)) ∧ DecS w0 wx xb rb ob r4 tv dv tl dl)
  case first =>
    rename_i J K hJ hK
    refine wp_frame (fun a0 ha0 => ?_)
    have F0 : a0.tmps[0]? = some (.pointer (some ⟨xb, 0, none⟩)) := by rw [ha0]; rfl
    have hsz : a0.tmps.size = 21 := by rw [ha0]; rfl
    have Hrest : Hid (∀ a1 wx (tb : Nat), FrameBut [3, 4, 5, 6, 7, 8, 9, 10, 11, 2] a0 a1 → a1.tmps[2]? = some (.pointer (some ⟨tb, 0, none⟩)) → w0.heap.size ≤ tb → tv.ownBlock ≠ some tb → wx.heap[tb]? = some (.cells #[.int .i64 t.file, .int .i64 t.level, .string t.first, .string t.last, .int .i64 0] 51 (0, 0)) → DecS w0 wx xb rb ob r4 tv dv tl dl → K a1 wx) := Lib.hid (fun a1 wx tb ha h1 h2 h3 h4 h5 => by
      refine hK _ _ (hJ _ _ ?_)
      refine ⟨a1.tmps.getD 2 undef, a1.tmps.getD 3 undef, a1.tmps.getD 4 undef, a1.tmps.getD 5 undef, a1.tmps.getD 6 undef, a1.tmps.getD 7 undef, a1.tmps.getD 8 undef, a1.tmps.getD 9 undef, a1.tmps.getD 10 undef, a1.tmps.getD 11 undef, ⟨tb, by rw [Array.getD_eq_getD_getElem?, h1]; rfl, h2, h3, h4, h5⟩, ha.fill.trans ?_⟩
      subst ha0
      kernel_rfl)
    clear ha0 hK hJ
    refine wp_region_flow (SDa w0.heap.size rb tv.ownBlock t) (TDa w0 xb rb ob r0 r1 r2 r3 r4 tv dv tl dl t) RDa [3, 4, 5, 6, 7, 8, 9, 10, 11, 2] (by kernel_rfl) (by kernel_rfl) (by rw [hsz]; rfl) SDa.keep ⟨by rw [show stA r0 r1 r2 r3 r4 (Array.replicate _ false) = r0 from rfl]; exact H.out.grow (Grow.drew W), fun h => by cases h⟩ ?_ (fun a1 W1 hf => ?_)
    rotate_left
    · obtain ⟨tb, h1, h2, h3, h4⟩ := hf.world.2 (by rfl)
      exact Hrest.out a1 W1 tb hf.alike h1 h2 h3 h4 (by have := hf.world.1; rw [show stA r0 r1 r2 r3 r4 (Array.replicate _ true) = r4 from rfl] at this; exact this)
    clear Hrest
    refine ⟨?_, ?_, ?_, ?_, ?_, ?_, ?_, ?_, ?_, ?_, ?_, True.intro⟩
    · intro listed a W hf hun haf
      have hs1 : a.tmps.size = 21 := hf.alike.size.trans hsz
      have hD := hf.world.1
      have hny := not_yet hf.closed (n := 8) (e := 10) (i := 0) (by kernel_rfl) hun
      obtain ⟨k0, lk⟩ := hD.cell
      have G0 : a.tmps[0]'(by rw [hs1]; decide) = .pointer (some ⟨xb, 0, none⟩) := tmp_get ((hf.alike.same 0 (by decide)).trans F0) _
      refine wpOp_act rfl (by rfl) (fun K' hK' => ?_)
      go_simp
      exact hK' _ _ ⟨_, rfl, (fun _ _ => rfl), RDa.refl _, TDa.vac 0 (by decide) hny (stA_other 0 (by decide) (by decide) (by decide) (by decide)) hD⟩
    · intro listed a W hf hun haf
      have hs1 : a.tmps.size = 21 := hf.alike.size.trans hsz
      have hD := hf.world.1
      have hny := not_yet hf.closed (n := 8) (e := 10) (i := 1) (by kernel_rfl) hun
      obtain ⟨v0, s0, q0⟩ := hf.slot 0 3 rfl (after_listed haf 0 (by kernel_rfl))
      have q0' : v0 = _ := q0
      subst q0'
      have G3 := tmp_get s0 (by rw [hs1]; decide)
      have n3 := not_yet hf.closed (n := 8) (e := 3) (i := 1) (by kernel_rfl) hun
      have n5 := not_yet hf.closed (n := 8) (e := 5) (i := 1) (by kernel_rfl) hun
      have n7 := not_yet hf.closed (n := 8) (e := 7) (i := 1) (by kernel_rfl) hun
      have hsi : listed.size = 11 := hf.size
      have ni := unlisted (by rw [hsi]; decide) hun
      have hst : stA r0 r1 r2 r3 r4 listed = r0 := by unfold stA; simp [ni, n3, n5, n7]
      rw [hst] at hD
      have hs2 : stA r0 r1 r2 r3 r4 (listed.setIfInBounds 1 true) = r1 := by
        unfold stA
        rw [listed_same (k := 1) (by rw [hsi]; decide), getD_set_ne false (show 1 ≠ 3 by decide), getD_set_ne false (show 1 ≠ 5 by decide), getD_set_ne false (show 1 ≠ 7 by decide)]
        simp [n3, n5, n7]
      obtain ⟨bv, hR1, _⟩ := hD.rdr.cell
      refine wpOp_call rfl (by rfl) (by go_simp) (rnumber_any (w0 := w0) (W := W) (rb := rb) (by have := hD.rdr; rw [Hr0.out] at this; exact this) (by have := Ht.out.file.2; omega) l1) ?_
      rintro e W2 ⟨rfl, hR, hG⟩
      exact ⟨_, rfl, _, rfl, (fun _ _ => by show Value.int .i64 _ = Value.int .i64 _; rw [Int.toNat_of_nonneg Ht.out.file.1]), RDa.gx hR1 hG, TDa.vac 1 (by decide) hny hs2 (hD.step hR hG)⟩
    · intro listed a W hf hun haf
      have hs1 : a.tmps.size = 21 := hf.alike.size.trans hsz
      have hD := hf.world.1
      have hny := not_yet hf.closed (n := 8) (e := 10) (i := 2) (by kernel_rfl) hun
      obtain ⟨k0, lk⟩ := hD.cell
      have G0 : a.tmps[0]'(by rw [hs1]; decide) = .pointer (some ⟨xb, 0, none⟩) := tmp_get ((hf.alike.same 0 (by decide)).trans F0) _
      refine wpOp_act rfl (by rfl) (fun K' hK' => ?_)
      go_simp
      exact hK' _ _ ⟨_, rfl, (fun _ _ => rfl), RDa.refl _, TDa.vac 2 (by decide) hny (stA_other 2 (by decide) (by decide) (by decide) (by decide)) hD⟩
    · intro listed a W hf hun haf
      have hs1 : a.tmps.size = 21 := hf.alike.size.trans hsz
      have hD := hf.world.1
      have hny := not_yet hf.closed (n := 8) (e := 10) (i := 3) (by kernel_rfl) hun
      obtain ⟨v2, s2, q2⟩ := hf.slot 2 5 rfl (after_listed haf 2 (by kernel_rfl))
      have q2' : v2 = _ := q2
      subst q2'
      have G5 := tmp_get s2 (by rw [hs1]; decide)
      have n5 := not_yet hf.closed (n := 8) (e := 5) (i := 3) (by kernel_rfl) hun
      have n7 := not_yet hf.closed (n := 8) (e := 7) (i := 3) (by kernel_rfl) hun
      have y1 := after_listed haf 1 (by kernel_rfl)
      have hsi : listed.size = 11 := hf.size
      have ni := unlisted (by rw [hsi]; decide) hun
      have hst : stA r0 r1 r2 r3 r4 listed = r1 := by unfold stA; simp [ni, n5, n7, y1]
      rw [hst] at hD
      have hs2 : stA r0 r1 r2 r3 r4 (listed.setIfInBounds 3 true) = r2 := by
        unfold stA
        rw [listed_same (k := 3) (by rw [hsi]; decide), getD_set_ne false (show 3 ≠ 5 by decide), getD_set_ne false (show 3 ≠ 7 by decide)]
        simp [n5, n7]
      obtain ⟨bv, hR1, _⟩ := hD.rdr.cell
      refine wpOp_call rfl (by rfl) (by go_simp) (rnumber_any (w0 := w0) (W := W) (rb := rb) (by have := hD.rdr; rw [Hr1.out] at this; exact this) (by have := Ht.out.level.2; omega) l2) ?_
      rintro e W2 ⟨rfl, hR, hG⟩
      exact ⟨_, rfl, _, rfl, (fun _ _ => by show Value.int .i64 _ = Value.int .i64 _; rw [Int.toNat_of_nonneg Ht.out.level.1]), RDa.gx hR1 hG, TDa.vac 3 (by decide) hny hs2 (hD.step hR hG)⟩
    · intro listed a W hf hun haf
      have hs1 : a.tmps.size = 21 := hf.alike.size.trans hsz
      have hD := hf.world.1
      have hny := not_yet hf.closed (n := 8) (e := 10) (i := 4) (by kernel_rfl) hun
      obtain ⟨k0, lk⟩ := hD.cell
      have G0 : a.tmps[0]'(by rw [hs1]; decide) = .pointer (some ⟨xb, 0, none⟩) := tmp_get ((hf.alike.same 0 (by decide)).trans F0) _
      refine wpOp_act rfl (by rfl) (fun K' hK' => ?_)
      go_simp
      exact hK' _ _ ⟨_, rfl, (fun _ _ => rfl), RDa.refl _, TDa.vac 4 (by decide) hny (stA_other 4 (by decide) (by decide) (by decide) (by decide)) hD⟩
    · intro listed a W hf hun haf
      have hs1 : a.tmps.size = 21 := hf.alike.size.trans hsz
      have hD := hf.world.1
      have hny := not_yet hf.closed (n := 8) (e := 10) (i := 5) (by kernel_rfl) hun
      obtain ⟨v4, s4, q4⟩ := hf.slot 4 7 rfl (after_listed haf 4 (by kernel_rfl))
      have q4' : v4 = _ := q4
      subst q4'
      have G7 := tmp_get s4 (by rw [hs1]; decide)
      have n7 := not_yet hf.closed (n := 8) (e := 7) (i := 5) (by kernel_rfl) hun
      have y3 := after_listed haf 3 (by kernel_rfl)
      have hsi : listed.size = 11 := hf.size
      have ni := unlisted (by rw [hsi]; decide) hun
      have hst : stA r0 r1 r2 r3 r4 listed = r2 := by unfold stA; simp [ni, n7, y3]
      rw [hst] at hD
      have hs2 : stA r0 r1 r2 r3 r4 (listed.setIfInBounds 5 true) = r3 := by
        unfold stA
        rw [listed_same (k := 5) (by rw [hsi]; decide), getD_set_ne false (show 5 ≠ 7 by decide)]
        simp [n7]
      obtain ⟨bv, hR1, _⟩ := hD.rdr.cell
      refine wpOp_call rfl (by rfl) (by go_simp) (rtext_any (w0 := w0) (W := W) (rb := rb) (by have := hD.rdr; rw [Hr2.out] at this; exact this) f1 l3) ?_
      rintro e W2 ⟨rfl, hR, hG⟩
      exact ⟨_, rfl, _, rfl, (fun _ _ => rfl), RDa.gx hR1 hG, TDa.vac 5 (by decide) hny hs2 (hD.step hR hG)⟩
    · intro listed a W hf hun haf
      have hs1 : a.tmps.size = 21 := hf.alike.size.trans hsz
      have hD := hf.world.1
      have hny := not_yet hf.closed (n := 8) (e := 10) (i := 6) (by kernel_rfl) hun
      obtain ⟨k0, lk⟩ := hD.cell
      have G0 : a.tmps[0]'(by rw [hs1]; decide) = .pointer (some ⟨xb, 0, none⟩) := tmp_get ((hf.alike.same 0 (by decide)).trans F0) _
      refine wpOp_act rfl (by rfl) (fun K' hK' => ?_)
      go_simp
      exact hK' _ _ ⟨_, rfl, (fun _ _ => rfl), RDa.refl _, TDa.vac 6 (by decide) hny (stA_other 6 (by decide) (by decide) (by decide) (by decide)) hD⟩
    · intro listed a W hf hun haf
      have hs1 : a.tmps.size = 21 := hf.alike.size.trans hsz
      have hD := hf.world.1
      have hny := not_yet hf.closed (n := 8) (e := 10) (i := 7) (by kernel_rfl) hun
      obtain ⟨v6, s6, q6⟩ := hf.slot 6 9 rfl (after_listed haf 6 (by kernel_rfl))
      have q6' : v6 = _ := q6
      subst q6'
      have G9 := tmp_get s6 (by rw [hs1]; decide)
      have y5 := after_listed haf 5 (by kernel_rfl)
      have hsi : listed.size = 11 := hf.size
      have ni := unlisted (by rw [hsi]; decide) hun
      have hst : stA r0 r1 r2 r3 r4 listed = r3 := by unfold stA; simp [ni, y5]
      rw [hst] at hD
      have hs2 : stA r0 r1 r2 r3 r4 (listed.setIfInBounds 7 true) = r4 := by
        unfold stA
        rw [listed_same (k := 7) (by rw [hsi]; decide)]
        simp
      obtain ⟨bv, hR1, _⟩ := hD.rdr.cell
      refine wpOp_call rfl (by rfl) (by go_simp) (rtext_any (w0 := w0) (W := W) (rb := rb) (by have := hD.rdr; rw [Hr3.out] at this; exact this) f2 l4) ?_
      rintro e W2 ⟨rfl, hR, hG⟩
      exact ⟨_, rfl, _, rfl, (fun _ _ => rfl), RDa.gx hR1 hG, TDa.vac 7 (by decide) hny hs2 (hD.step hR hG)⟩
    · intro listed a W hf hun haf
      have hs1 : a.tmps.size = 21 := hf.alike.size.trans hsz
      have hD := hf.world.1
      have hny := not_yet hf.closed (n := 8) (e := 10) (i := 8) (by kernel_rfl) hun
      obtain ⟨v1, s1, q1⟩ := hf.slot 1 4 rfl (after_listed haf 1 (by kernel_rfl))
      have q1' : v1 = _ := q1
      subst q1'
      have G4 := tmp_get s1 (by rw [hs1]; decide)
      obtain ⟨v3, s3, q3⟩ := hf.slot 3 6 rfl (after_listed haf 3 (by kernel_rfl))
      have q3' : v3 = _ := q3
      subst q3'
      have G6 := tmp_get s3 (by rw [hs1]; decide)
      obtain ⟨v5, s5, q5⟩ := hf.slot 5 8 rfl (after_listed haf 5 (by kernel_rfl))
      have q5' : v5 = _ := q5
      subst q5'
      have G8 := tmp_get s5 (by rw [hs1]; decide)
      obtain ⟨v7, s7, q7⟩ := hf.slot 7 10 rfl (after_listed haf 7 (by kernel_rfl))
      have q7' : v7 = _ := q7
      subst q7'
      have G10 := tmp_get s7 (by rw [hs1]; decide)
      refine wpOp_act rfl (by rfl) (fun K' hK' => ?_)
      go_simp
      exact hK' _ _ ⟨_, rfl, (fun _ _ => rfl), RDa.refl _, TDa.vac 8 (by decide) hny (stA_other 8 (by decide) (by decide) (by decide) (by decide)) hD⟩
    · intro listed a W hf hun haf
      have hs1 : a.tmps.size = 21 := hf.alike.size.trans hsz
      have hD := hf.world.1
      have hny := not_yet hf.closed (n := 8) (e := 10) (i := 9) (by kernel_rfl) hun
      refine wpOp_act rfl (by rfl) (fun K' hK' => ?_)
      go_simp
      exact hK' _ (W.alloc (.cells #[.int .i64 0, .int .i64 0, .string ByteArray.empty, .string ByteArray.empty, .int .i64 0] 51)) ⟨_, rfl, (fun _ _ => ⟨W.heap.size, _, rfl, hD.rdr.grow.size, (fun e => by obtain ⟨cur, hc, _⟩ := own_at hD.tabs e; have := lt_of_getElem? hc; omega), heap_alloc_new _ _, rfl⟩), RDa.grow (Grow.alloc _ _), TDa.vac 9 (by decide) hny (stA_other 9 (by decide) (by decide) (by decide) (by decide)) (hD.grow (Grow.alloc _ _))⟩
    · intro listed a W hf hun haf
      have hs1 : a.tmps.size = 21 := hf.alike.size.trans hsz
      have hD := hf.world.1
      obtain ⟨v8, s8, q8⟩ := hf.slot 8 11 rfl (after_listed haf 8 (by kernel_rfl))
      have q8' : v8 = _ := q8
      subst q8'
      have G11 := tmp_get s8 (by rw [hs1]; decide)
      obtain ⟨v9, s9, tb, cs, q9, b9, o9, h9, z9⟩ := hf.slot 9 2 rfl (after_listed haf 9 (by kernel_rfl))
      subst q9
      have G2 := tmp_get s9 (by rw [hs1]; decide)
      obtain ⟨x0, x1, x2, x3, x4, rfl⟩ := arr5 z9
      obtain ⟨t0, t1, t2, t3, t4⟩ := cells5 h9
      have lt9 := lt_of_getElem? h9
      have fr9 : ∀ i, W.frozen? ⟨tb, i, none⟩ = false := fun i => by simp [World.frozen?, h9]
      have hset := setTab h9 z9 (.int .i64 t.file) (.int .i64 t.level) (.string t.first) (.string t.last) (.int .i64 0)
      have hoth := fun (c : Nat) (hc : c ≠ tb) => setTab_other (W := W) (b := tb) hc (.int .i64 t.file) (.int .i64 t.level) (.string t.first) (.string t.last) (.int .i64 0)
      have hg := hD.rdr.grow
      have hD2 := hD.tab (W' := tabSet W tb (.int .i64 t.file) (.int .i64 t.level) (.string t.first) (.string t.last) (.int .i64 0)) h9 b9 o9 (by simpa using hg.size) ⟨hg.os, hg.tape, hg.output⟩ hoth
      refine wpOp_act rfl (by rfl) (fun K' hK' => ?_)
      go_simp
      refine hK' _ _ ⟨undef, rfl, (fun _ h => by cases h), (fun c cs' hc hs' => ?_), by rw [stA_other 10 (by decide) (by decide) (by decide) (by decide)]; exact hD2, fun _ => ⟨tb, s9, b9, o9, hset⟩⟩
      by_cases e : c = tb
      · subst e; exact ⟨_, hset, rfl⟩
      · exact ⟨cs', (hoth c e).trans hc, hs'⟩
  case rest =>
  obtain ⟨tb, rfl, b1, o1, h1, hD1⟩ := hcut
  obtain ⟨c0, lx⟩ := hD1.cell
  have hcall := rnumber_any (w0 := w0) (W := wc) (rb := rb) (by have := hD1.rdr; rw [Hr4.out] at this; exact this) (by have := Ht.out.size.2; omega) (by omega)
  have hsz := Int.toNat_of_nonneg Ht.out.size.1
  obtain ⟨bv, hR1, _⟩ := hD1.rdr.cell
  have hne : tb ≠ rb := ne_type h1 hR1 (by decide)
  have Hcall := Lib.hid hcall
  have HD1 := Lib.hid hD1
  have H1 := Lib.hid h1
  clear hcall hR1 hD1 h1 H Hr0 Hr1 Hr2 Hr3 Hr4
  obtain ⟨f0, f1', f2', f3, f4⟩ := t
  dsimp only at hsz Hcall H1 ⊢
  generalize Int.toNat f4 = sz at *
  subst hsz
  go_wp2_with fail
  (with_reducible refine Hcall.out.mono ?_)
  rintro e w2 ⟨rfl, hR, hG⟩
  have hD2 := HD1.out.step hR hG
  have h2 := hG.heap H1.out hne
  obtain ⟨t0, t1, t2, t3, t4⟩ := cells5 h2
  have lt2 := lt_of_getElem? h2
  have ft2 : ∀ i, w2.frozen? ⟨tb, i, none⟩ = false := fun i => by simp [World.frozen?, h2]
  have h3 : (w2.setCell ⟨tb, 4, none⟩ (.int .i64 (sz : Int))).heap[tb]? = some (.cells #[.int .i64 f0, .int .i64 f1', .string f2', .string f3, .int .i64 (sz : Int)] 51 (0, 0)) := Go.Gl.setCell_heap h2 4 _
  have hg2 := hD2.rdr.grow
  have hD3 := hD2.tab (W' := w2.setCell ⟨tb, 4, none⟩ (.int .i64 (sz : Int))) h2 b1 o1 (by simpa using hg2.size) ⟨hg2.os, hg2.tape, hg2.output⟩ (fun c hc => Below.heap_setCell _ _ _ _ hc)
  have lo2 := lt_of_getElem? hD2.out
  clear c0 lx hD2 hg2 h2 hR hG Hcall HD1 H1
  go_upto_region 2 with fail
  clear t0 t1 t2 t3 t4 lt2 ft2
  generalize w2.setCell ⟨tb, 4, none⟩ (.int .i64 (sz : Int)) = W3 at *
  obtain ⟨d0, lo⟩ : W3.cell? ⟨ob, 0, none⟩ = some tv ∧ ob < W3.heap.size := ⟨by simp [World.cell?, hD3.out], lt_of_getElem? hD3.out⟩
  obtain ⟨s0, s1, s2, s3, s4⟩ := cells5 h3
  have lt3 := lt_of_getElem? h3
  obtain ⟨g, cap, w5, hrun, hown5, hgr5⟩ := append_tab hD3.tabs hD3.rdr.grow.size htl f0 f1' f2' f3 (sz : Int)
  have hD5 := hD3.more (v' := .slice (some ⟨g, 0, none⟩) (tl.length + 1) cap) hgr5 hown5
  have Hrun := Lib.hid hrun
  have HD5 := Lib.hid hD5
  have hob5 : ∃ arr, w5.heap[ob]? = some (.cells arr 41 (0, 0)) ∧ arr.size = 5 := by
    obtain ⟨_, _, _, _, ge⟩ := hgr5
    refine ⟨_, (ge ob (lt_of_getElem? hD3.out) (fun e => ?_)).trans hD3.out, rfl⟩
    obtain ⟨cur, hc, _⟩ := own_at hD3.tabs e.symm
    exact ne_type hc hD3.out (by decide) rfl
  obtain ⟨arr, ha5, hs5⟩ := hob5
  obtain ⟨y0, y1, y2, y3, y4, rfl⟩ := arr5 hs5
  obtain ⟨z0, _, _, _, _⟩ := cells5 ha5
  have lo5 := lt_of_getElem? ha5
  have fo5 : ∀ i, w5.frozen? ⟨ob, i, none⟩ = false := fun i => by simp [World.frozen?, ha5]
  clear hrun hown5 hgr5 hD5 hD3 h3 lo2
  go_wp2_with (at_builtin; refine wpList_append rfl rfl rfl rfl Hrun.out ?_)
  exact ⟨rfl, .tuple #[], by simp [results, Tryz.results68, go_sem], rfl, _, HD5.out⟩
end Go.Proofs.YtejpcoghkgjanaaGreatDoor
