/- slices.DeleteFunc at tables, with the closure of apply: the tables whose files are not to be dropped. -/
import Derived.Test.YtpdbjmodgiokmaaDoorM3
import Derived.Lib.SliceRun
namespace Go.Proofs.YtpdbjmodgiokmaaDoor
open Go.RowKit Go.Gl

theorem setCell_heap {w : World} {b : Nat} {cur : Array Value} {t : TypeId} {f : Nat × Nat} (h : w.heap[b]? = some (.cells cur t f)) (o : Nat) (v : Value) : (w.setCell ⟨b, o, none⟩ v).heap[b]? = some (.cells (cur.setIfInBounds o v) t f) := by
  simp only [World.setCell]
  rw [Array.getElem?_modify, h]
  simp

theorem grown_setCell (w : World) (b o : Nat) (v : Value) : w.grownBy (w.setCell ⟨b, o, none⟩ v) (some b) := ⟨rfl, rfl, rfl, by simp, fun k _ hk => Below.heap_setCell _ _ _ _ (fun e => hk (by rw [e]))⟩

theorem grown_trans {w1 w2 w3 : World} {r : Option Nat} (h : w1.grownBy w2 r) (k : w2.grownBy w3 r) : w1.grownBy w3 r :=
  ⟨k.os.trans h.os, k.tape.trans h.tape, k.output.trans h.output, Nat.le_trans h.size k.size, fun b hb hne => by rw [k.block b (Nat.lt_of_lt_of_le hb h.size) hne, h.block b hb hne]⟩

/-- Cells of one block are set: all else is as it was. -/
theorem setCells_block {b : Nat} : ∀ (cs : List Value) (o : Nat) (w : World) (cur : Array Value) (t : TypeId) (f : Nat × Nat), w.heap[b]? = some (.cells cur t f) →
    ∃ cur', (w.setCells b o cs).heap[b]? = some (.cells cur' t f) ∧ cur'.size = cur.size ∧ (∀ m, m ≤ o → cur'.toList.take m = cur.toList.take m) ∧ w.grownBy (w.setCells b o cs) (some b)
  | [], o, w, cur, t, f, h => ⟨cur, h, rfl, fun _ _ => rfl, ⟨rfl, rfl, rfl, Nat.le_refl _, fun _ _ _ => rfl⟩⟩
  | v :: cs, o, w, cur, t, f, h => by
    have h1 := setCell_heap h o v
    obtain ⟨cur', e1, e2, e3, e4⟩ := setCells_block cs (o + 1) _ _ t f h1
    refine ⟨cur', e1, by simpa using e2, fun m hm => ?_, ?_⟩
    · rw [e3 m (by omega)]
      simp [Array.toList_setIfInBounds, List.take_set_of_le, hm]
    · exact grown_trans (grown_setCell w b o v) e4

theorem tcells_set : ∀ (d : List Tb) (i : Nat) (t : Tb), i < d.length → tcells (d.set i t) = (((((tcells d).set (i * 5) (.int .i64 t.file)).set (i * 5 + 1) (.int .i64 t.level)).set (i * 5 + 2) (.string t.first)).set (i * 5 + 3) (.string t.last)).set (i * 5 + 4) (.int .i64 t.size)
  | [], i, t, h => by simp at h
  | x :: d, 0, t, _ => by simp [tcells, encTb]
  | x :: d, i + 1, t, h => by
    have ih := tcells_set d i t (by simpa using h)
    have e : ∀ c, (i + 1) * 5 + c = (i * 5 + c) + 1 + 1 + 1 + 1 + 1 := fun c => by omega
    have e0 : (i + 1) * 5 = (i * 5) + 1 + 1 + 1 + 1 + 1 := by omega
    have hx : tcells (x :: d) = .int .i64 x.file :: .int .i64 x.level :: .string x.first :: .string x.last :: .int .i64 x.size :: tcells d := rfl
    rw [List.set_cons_succ, hx, e 1, e 2, e 3, e 4, e0]
    simp only [List.set_cons_succ]
    rw [← ih]
    rfl

/-- A table is laid over another. -/
theorem own_set {B : Nat} {w : World} {g n cap : Nat} {d : List Tb} (h : w.ownsRow B 38 5 (.slice (some ⟨g, 0, none⟩) n cap) n (tcells d)) (hd : d.length = n) {i : Nat} (hi : i < n) (t : Tb) {w' : World}
    (hw' : w' = ((((w.setCell ⟨g, i * 5, none⟩ (.int .i64 t.file)).setCell ⟨g, i * 5 + 1, none⟩ (.int .i64 t.level)).setCell ⟨g, i * 5 + 2, none⟩ (.string t.first)).setCell ⟨g, i * 5 + 3, none⟩ (.string t.last)).setCell ⟨g, i * 5 + 4, none⟩ (.int .i64 t.size)) :
    w'.ownsRow B 38 5 (.slice (some ⟨g, 0, none⟩) n cap) n (tcells (d.set i t)) ∧ w.grownBy w' (some g) := by
  rcases h.2 with ⟨e1, _⟩ | ⟨g', cap', cur, e1, hB, hg, hn, hm, hs, ht⟩
  · cases e1
  · cases e1
    subst hw'
    refine ⟨⟨by rw [← hd]; have := flat_len enc5 (d.set i t); rw [List.length_set] at this; exact this, .inr ⟨g, cap, ((((cur.setIfInBounds (i * 5) (.int .i64 t.file)).setIfInBounds (i * 5 + 1) (.int .i64 t.level)).setIfInBounds (i * 5 + 2) (.string t.first)).setIfInBounds (i * 5 + 3) (.string t.last)).setIfInBounds (i * 5 + 4) (.int .i64 t.size), rfl, hB, ?_, hn, hm, by simpa using hs, ?_⟩⟩, ?_⟩
    · exact setCell_heap (setCell_heap (setCell_heap (setCell_heap (setCell_heap hg _ _) _ _) _ _) _ _) _ _
    · rw [tcells_set d i t (by omega), ← ht]
      simp only [Array.toList_setIfInBounds, List.take_set]
    · exact grown_trans (grown_trans (grown_trans (grown_trans (grown_setCell _ _ _ _) (grown_setCell _ _ _ _)) (grown_setCell _ _ _ _)) (grown_setCell _ _ _ _)) (grown_setCell _ _ _ _)

theorem zeroT (w : World) : (zeroValue 38).run Tryd.prog w = .ok (.agg #[.int .i64 0, .int .i64 0, .string ByteArray.empty, .string ByteArray.empty, .int .i64 0]) w := by kernel_rfl

theorem run_clearT (w : World) (g o n c : Nat) (hn : 0 < n) (hc : ∀ j, j < n * 5 → (w.cell? ⟨g, o + j, none⟩).isSome = true) (hf : ∀ j, j < n * 5 → w.frozen? ⟨g, o + j, none⟩ = false) :
    ∃ cs, (Builtin.clear_ #[24] 0 #[.slice (some ⟨g, o, none⟩) n c]).run Tryd.prog w = .ok (.tuple #[]) (w.setCells g o cs) := by
  obtain ⟨za, hza, hsz, hone⟩ : ∃ za : Array Value, (∀ w, (zeroValue 38).run Tryd.prog w = .ok (.agg za) w) ∧ za.size = 5 ∧ ∀ i, i < 5 → (za[i]!).oneCell' = true := ⟨_, zeroT, rfl, fun i hi => by
    match i, hi with
    | 0, _ => rfl
    | 1, _ => rfl
    | 2, _ => rfl
    | 3, _ => rfl
    | 4, _ => rfl⟩
  have hlen : (Builtin.zeroCells za n).toList.length = n * 5 := by
    rw [Array.length_toList, size_zeroCells, hsz]
  have hst := run_storeCells_cells (P := Tryd.prog) g o (Builtin.zeroCells za n).toList 0 w (by rw [hlen]; simpa using hc) (by rw [hlen]; simpa using hf) (by
    intro v hv
    obtain ⟨i, hi, rfl⟩ := List.mem_iff_getElem.1 hv
    simp only [Builtin.zeroCells, Array.toList_map, List.getElem_map]
    have := hone (i % 5) (Nat.mod_lt _ (by decide))
    simpa [hsz] using this)
  simp only [Nat.add_zero] at hst
  obtain ⟨m, rfl⟩ : ∃ m, n = m + 1 := ⟨n - 1, by omega⟩
  refine ⟨(Builtin.zeroCells za (m + 1)).toList, ?_⟩
  simp [Builtin.clear_, run_underlying Tryd.underlying24, hza, Value.cells, hst]

/-- The closure of apply: is a table's file to be dropped? -/
theorem del_clo {w : World} {eb : Nat} {av dv : Value} {s n wl : Int} {ks : List Int} (hb : w.heap[eb]? = some (.cells #[av, dv, .int .u64 s, .int .i64 n, .int .i64 wl] 31 (0, 0))) (hd : Ints w dv ks) (hks : ks.length ≤ 1000000000) (x : Tb) :
    Calls Tryd.prog 22 #[.agg (encTb x).toArray, .pointer (some ⟨eb, 0, none⟩)] w fun e w' => e = .returned (.bool (ks.contains x.file)) ∧ Grow w w' := by
  obtain ⟨x0, x1, x2, x3, x4⟩ := x
  obtain ⟨c0, c1, c2, c3, c4⟩ := cells5 hb
  have hlt := lt_of_getElem? hb
  have hne : eb ≠ w.heap.size := by omega
  have hcon := contains_any (hd.grow (Grow.alloc w (.cells #[.int .i64 x0, .int .i64 x1, .string x2, .string x3, .int .i64 x4] 38))) hks x0
  obtain ⟨da, dc, rfl, _⟩ := hd
  have Hcon := Lib.hid hcon
  simp only [encTb]
  generalize ks.contains x0 = r at *
  clear hcon hb
  go_enter Tryd.func22, Tryd.ntmps22
  go_wp2_with fail
  (with_reducible refine Hcon.out.mono ?_)
  rintro e w' ⟨rfl, rfl⟩
  go_wp2
  go_ret
  exact ⟨rfl, Grow.alloc _ _⟩

/-- Tables whose files are not to be dropped. -/
def keepT (ks : List Int) (t : Tb) : Bool := !ks.contains t.file

def DelInv (B : Nat) (w : World) (g n cap : Nat) (l : List Tb) (ks : List Int) (iv jv : Value) (wr : World) : Prop :=
  ∃ (i j : Nat) (d : List Tb), iv = .int .i64 i ∧ jv = .int .i64 j ∧ i < j ∧ j ≤ n ∧ d.length = n ∧ wr.ownsRow B 38 5 (.slice (some ⟨g, 0, none⟩) n cap) n (tcells d) ∧ d.take i = (l.take j).filter (keepT ks) ∧ d.drop j = l.drop j ∧ Below B w wr

theorem take_snocT {α : Type} {l : List α} {j : Nat} {x : α} (h : l[j]? = some x) : l.take (j + 1) = l.take j ++ [x] := by
  obtain ⟨hi, rfl⟩ := List.getElem?_eq_some_iff.1 h
  rw [List.take_succ_eq_append_getElem hi]

theorem idx_of {l : List Tb} {p : Tb → Bool} : (Lib.idxBy (fun _ y => p y) l default = -1 ∧ ∀ x ∈ l, p x = false) ∨ ∃ (i : Nat) (x : Tb), Lib.idxBy (fun _ y => p y) l default = (i : Int) ∧ l[i]? = some x ∧ p x = true ∧ ∀ y ∈ l.take i, p y = false := by
  have gen : ∀ (l : List Tb) (s : Nat), (Lib.idxByFrom (fun _ y => p y) default l s = -1 ∧ ∀ x ∈ l, p x = false) ∨ ∃ (i : Nat) (x : Tb), Lib.idxByFrom (fun _ y => p y) default l s = ((s + i : Nat) : Int) ∧ l[i]? = some x ∧ p x = true ∧ ∀ y ∈ l.take i, p y = false := by
    intro l
    induction l with
    | nil => intro s; exact .inl ⟨rfl, (fun x hx => by cases hx)⟩
    | cons z l ih =>
      intro s
      cases hz : p z with
      | true => exact .inr ⟨0, z, by simp [Lib.idxByFrom, hz], rfl, hz, (fun y hy => by simp at hy)⟩
      | false =>
        have e : Lib.idxByFrom (fun _ y => p y) default (z :: l) s = Lib.idxByFrom (fun _ y => p y) default l (s + 1) := by simp [Lib.idxByFrom, hz]
        rw [e]
        rcases ih (s + 1) with ⟨h1, h2⟩ | ⟨i, x, h1, h2, h3, h4⟩
        · refine .inl ⟨h1, fun x hx => ?_⟩
          rcases List.mem_cons.1 hx with rfl | hx
          · exact hz
          · exact h2 x hx
        · refine .inr ⟨i + 1, x, by rw [h1]; congr 1; omega, by simpa using h2, h3, fun y hy => ?_⟩
          rw [List.take_succ_cons] at hy
          rcases List.mem_cons.1 hy with rfl | hy
          · exact hz
          · exact h4 y hy
  rcases gen l 0 with h | ⟨i, x, h1, h2⟩
  · exact .inl h
  · exact .inr ⟨i, x, by unfold Lib.idxBy; rw [h1]; congr 1; omega, h2⟩

theorem own_cells {w : World} {B g n cap : Nat} {d : List Tb} (h : w.ownsRow B 38 5 (.slice (some ⟨g, 0, none⟩) n cap) n (tcells d)) (hd : d.length = n) {j : Nat} {t : Tb} (ht : d[j]? = some t) :
    w.cell? ⟨g, j * 5, none⟩ = some (.int .i64 t.file) ∧ w.cell? ⟨g, j * 5 + 1, none⟩ = some (.int .i64 t.level) ∧ w.cell? ⟨g, j * 5 + 2, none⟩ = some (.string t.first) ∧ w.cell? ⟨g, j * 5 + 3, none⟩ = some (.string t.last) ∧ w.cell? ⟨g, j * 5 + 4, none⟩ = some (.int .i64 t.size) := by
  subst hd
  have h1 := rd_of_owns enc5 h j t ht
  have k0 := h1 0 _ rfl
  have k1 := h1 1 _ rfl
  have k2 := h1 2 _ rfl
  have k3 := h1 3 _ rfl
  have k4 := h1 4 _ rfl
  simp only [Nat.zero_add, Nat.add_zero] at k0 k1 k2 k3 k4
  exact ⟨k0, k1, k2, k3, k4⟩

theorem own_block {w : World} {B g n cap : Nat} {xs : List Value} (h : w.ownsRow B 38 5 (.slice (some ⟨g, 0, none⟩) n cap) n xs) : ∃ cur, w.heap[g]? = some (.cells cur 38 (0, 0)) ∧ B ≤ g ∧ n ≤ cap ∧ cap ≤ maxLen ∧ cur.size = cap * 5 ∧ cur.toList.take (n * 5) = xs := by
  rcases h.2 with ⟨e1, _⟩ | ⟨g', cap', cur, e1, h2⟩
  · cases e1
  · cases e1
    exact ⟨cur, h2.2.1, h2.1, h2.2.2.1, h2.2.2.2.1, h2.2.2.2.2.1, h2.2.2.2.2.2⟩

set_option maxRecDepth 100000 in
set_option maxHeartbeats 4000000 in
theorem del_some {B : Nat} {w : World} {g cap : Nat} {l : List Tb} (h : Own B w (.slice (some ⟨g, 0, none⟩) l.length cap) l) (hlen : l.length < 1000000000) (hBw : B ≤ w.heap.size) {eb : Nat} (heb : eb < B) {av dv : Value} {s n wl : Int} {ks : List Int} (hb : w.heap[eb]? = some (.cells #[av, dv, .int .u64 s, .int .i64 n, .int .i64 wl] 31 (0, 0)))
    {w0 : World} (hw0 : Below B w0 w) (hd : Ints w0 dv ks) (hB0 : w0.heap.size ≤ B) (hks : ks.length ≤ 1000000000) :
    Calls Tryd.prog 21 #[.slice (some ⟨g, 0, none⟩) l.length cap, .func (.func 22) #[] #[.pointer (some ⟨eb, 0, none⟩)]] w fun e w' => ∃ v', e = .returned v' ∧ Own B w' v' (l.filter (keepT ks)) ∧ Below B w w' := by
  have hclo : ∀ W, Below B w W → ∀ x : Tb, Calls Tryd.prog 22 #[.agg #[.int .i64 x.file, .int .i64 x.level, .string x.first, .string x.last, .int .i64 x.size], .pointer (some ⟨eb, 0, none⟩)] W fun e w' => e = .returned (.bool (ks.contains x.file)) ∧ Grow W w' := fun W hW x => by
    refine del_clo (av := av) (dv := dv) (s := s) (n := n) (wl := wl) ?_ ?_ hks x
    · rw [hW.block eb heb]; exact hb
    · have h1 := hw0.trans hW
      exact hd.grow (h1.mono hB0)
  obtain ⟨cur, hg, hBg, hn, hcm, hs, ht⟩ := own_block h
  have hglt := lt_of_getElem? hg
  have eg : ∀ args w, (callFunc 22 args).run Tryd.prog w = .ok (.enter 22 args) w := enters_of Tryd.func22 (by kernel_rfl) rfl
  have hrd := rd_of_owns enc5 h
  have hidx : Calls Tryd.prog 32 #[.slice (some ⟨g, 0, none⟩) l.length cap, .func (.func 22) #[] #[.pointer (some ⟨eb, 0, none⟩)]] w _ := AnyQ.slices_IndexFunc Tryd.idxF 5 Tryd.isAgg38 Tryd.sizeOf38 encTb enc5 (fun x => ks.contains x.file) 22 #[.pointer (some ⟨eb, 0, none⟩)] eg g 0 l.length cap l w
    (fun W x hW => (hclo W (hW.mono hBw) x).mono fun e w' ⟨he, hg⟩ => ⟨he, hW.trans (hg.mono hW.size)⟩) (Nat.le_refl _) (by omega) hglt (fun j hj i u hu => hrd j l[j]! (by rw [getElem!_pos l j hj]; simp [hj]) i u hu)
  rw [List.take_length] at hidx
  have Hidx := Lib.hid hidx
  have Hclo := Lib.hid hclo
  have H := Lib.hid h
  clear hidx hclo hb hw0 hd hrd ht hg
  rcases idx_of (l := l) (p := fun x => ks.contains x.file) with ⟨hm1, hno⟩ | ⟨i0, x0, hi0, hx0, hp0, hpre⟩
  · have hf : l.filter (keepT ks) = l := List.filter_eq_self.2 fun x hx => by simp only [keepT, hno x hx, Bool.not_false]
    rw [hm1] at Hidx
    have Hf := Lib.hid hf
    clear hm1 hno hf
    go_enter Tryd.func21, Tryd.ntmps21
    go_wp2_with fail
    (with_reducible refine Hidx.out.mono ?_)
    rintro e w1 ⟨rfl, hg1⟩
    go_wp2
    go_ret
    exact ⟨_, rfl, by rw [Hf.out]; exact owns_grow H.out hg1, hg1.mono hBw⟩
  · rw [hi0] at Hidx
    have hi0l : i0 < l.length := (List.getElem?_eq_some_iff.1 hx0).1
    have hstart : l.take i0 = (l.take (i0 + 1)).filter (keepT ks) := by
      rw [take_snocT hx0, List.filter_append]
      have e1 : (l.take i0).filter (keepT ks) = l.take i0 := List.filter_eq_self.2 fun y hy => by simp only [keepT, hpre y hy, Bool.not_false]
      have e2 : keepT ks x0 = false := by
        unfold keepT
        have : ks.contains x0.file = true := hp0
        rw [this]; rfl
      rw [e1, List.filter_cons_of_neg (by rw [e2]; decide), List.filter_nil, List.append_nil]
    have Hst := Lib.hid hstart
    have hne : ((i0 : Int) == -1) = false := by simp
    clear hi0 hx0 hp0 hpre hstart
    go_enter Tryd.func21, Tryd.ntmps21
    go_wp2_with fail
    (with_reducible refine Hidx.out.mono ?_)
    rintro e w1 ⟨rfl, hg1⟩
    have H1 := Lib.hid (owns_grow H.out hg1)
    have Hg1 := Lib.hid (hg1.mono hBw)
    clear hg1
    go_wp2_with fail
    go_loopw [5, 6] (fun iv jv wr => DelInv B w g l.length cap l ks iv jv wr) (fun _ jv _ => l.length - (intOf jv).toNat)
    case atStart => exact ⟨i0, i0 + 1, l, rfl, rfl, by omega, hi0l, rfl, H1.out, Hst.out, rfl, Hg1.out⟩
    case round =>
      obtain ⟨i, j, d, rfl, rfl, hij, hjl, hdl, hown, htk, hdr, hbel⟩ := hrel
      by_cases hlt : j < l.length
      · obtain ⟨t, ht⟩ : ∃ t, l[j]? = some t := ⟨l[j], by simp [hlt]⟩
        have hdj : d[j]? = some t := by
          have e1 : (d.drop j)[0]? = (l.drop j)[0]? := by rw [hdr]
          simpa [ht] using e1
        obtain ⟨t', ht'⟩ : ∃ t', d[i]? = some t' := ⟨d[i], by simp [show i < d.length by omega]⟩
        obtain ⟨c0, c1, c2, c3, c4⟩ := own_cells hown hdl hdj
        obtain ⟨cur, hgr, _⟩ := own_block hown
        have lg := lt_of_getElem? hgr
        have hj1 : (j : Int) < (l.length : Int) := by omega
        have hj0 : (0 : Int) ≤ (j : Int) := by omega
        have hi1 : (i : Int) < (l.length : Int) := by omega
        have hi00 : (0 : Int) ≤ (i : Int) := by omega
        have hwi : IntKind.i64.wrap ((i : Int) + 1) = (i : Int) + 1 := IntWalk.i64_in _ (by omega)
        have hwj : IntKind.i64.wrap ((j : Int) + 1) = (j : Int) + 1 := IntWalk.i64_in _ (by omega)
        obtain ⟨f0, f1, f2, f3, f4⟩ := t
        have hb1 : Below B w (wr.alloc (.cells #[.int .i64 f0, .int .i64 f1, .string f2, .string f3, .int .i64 f4] 38)) := hbel.alloc (Nat.le_trans hBw hbel.size) _
        have hcl := Hclo.out _ hb1 ⟨f0, f1, f2, f3, f4⟩
        have hbx : (wr.alloc (.cells #[.int .i64 f0, .int .i64 f1, .string f2, .string f3, .int .i64 f4] 38)).heap[wr.heap.size]? = some (.cells #[.int .i64 f0, .int .i64 f1, .string f2, .string f3, .int .i64 f4] 38 (0, 0)) := heap_alloc_new _ _
        have hga : Grow wr (wr.alloc (.cells #[.int .i64 f0, .int .i64 f1, .string f2, .string f3, .int .i64 f4] 38)) := Grow.alloc _ _
        have hts := take_snocT ht
        have Hcl := Lib.hid hcl
        have Hbx := Lib.hid hbx
        have Hga := Lib.hid hga
        have Hown := Lib.hid hown
        have Hdj := Lib.hid hdj
        have Hti := Lib.hid ht'
        have Htk := Lib.hid htk
        have Hdr := Lib.hid hdr
        have Hbel := Lib.hid hbel
        have Hb1 := Lib.hid hb1
        have Hts := Lib.hid hts
        clear hcl hbx hga hown hdj ht' htk hdr hbel hb1 hts ht hgr
        dsimp only at Hcl
        cases hc : ks.contains f0 with
        | true =>
          rw [hc] at Hcl
          have Hrel0 : Hid ((l.take (j + 1)).filter (keepT ks) = d.take i) := Lib.hid (by
            rw [Hts.out, List.filter_append, ← Htk.out, List.filter_cons_of_neg (by simp only [keepT, hc]; decide), List.filter_nil, List.append_nil])
          clear hc
          go_wp2_with fail
          (with_reducible refine Hcl.out.mono ?_)
          rintro e w3 ⟨rfl, hg3⟩
          have Hrel : Hid (DelInv B w g l.length cap l ks (.int .i64 (i : Nat)) (.int .i64 ((j + 1 : Nat) : Int)) w3) := Lib.hid ⟨i, j + 1, d, rfl, rfl, by omega, hlt, hdl, owns_grow (owns_grow Hown.out Hga.out) hg3, Hrel0.out.symm, by
            have e1 := congrArg (List.drop 1) Hdr.out
            simpa [List.drop_drop, Nat.add_comm] using e1, Hb1.out.trans (hg3.mono (Nat.le_trans hBw Hb1.out.size))⟩
          clear hg3
          go_wp2
          go_roundw
          case rel => exact Hrel.out
          case measure => simp [intOf]; omega
        | false =>
          rw [hc] at Hcl
          have hkp : keepT ks ⟨f0, f1, f2, f3, f4⟩ = true := by simp only [keepT, hc]; rfl
          have Hkp := Lib.hid hkp
          clear hc hkp
          go_wp2_with fail
          (with_reducible refine Hcl.out.mono ?_)
          rintro e w3 ⟨rfl, hg3⟩
          have hown3 := owns_grow (owns_grow Hown.out Hga.out) hg3
          obtain ⟨k0, k1, k2, k3, k4⟩ := cells5 (hg3.heap Hbx.out)
          obtain ⟨m0, m1, m2, m3, m4⟩ := own_cells hown3 hdl Hti.out
          have z0 := hown3.frozenAt (i * 5)
          have z1 := hown3.frozenAt (i * 5 + 1)
          have z2 := hown3.frozenAt (i * 5 + 2)
          have z3 := hown3.frozenAt (i * 5 + 3)
          have z4 := hown3.frozenAt (i * 5 + 4)
          obtain ⟨cur3, hgr3, hBg3, _⟩ := own_block hown3
          have lg3 := lt_of_getElem? hgr3
          have lb3 := lt_of_getElem? (hg3.heap Hbx.out)
          obtain ⟨hown4, hgr4⟩ := own_set hown3 hdl (show i < l.length by omega) ⟨f0, f1, f2, f3, f4⟩ rfl
          have Hrel : Hid (DelInv B w g l.length cap l ks (.int .i64 ((i + 1 : Nat) : Int)) (.int .i64 ((j + 1 : Nat) : Int)) (((((w3.setCell ⟨g, i * 5, none⟩ (.int .i64 f0)).setCell ⟨g, i * 5 + 1, none⟩ (.int .i64 f1)).setCell ⟨g, i * 5 + 2, none⟩ (.string f2)).setCell ⟨g, i * 5 + 3, none⟩ (.string f3)).setCell ⟨g, i * 5 + 4, none⟩ (.int .i64 f4))) := Lib.hid (by
            refine ⟨i + 1, j + 1, d.set i ⟨f0, f1, f2, f3, f4⟩, rfl, rfl, by omega, hlt, by rw [List.length_set]; exact hdl, hown4, ?_, ?_, ?_⟩
            · rw [Hts.out, List.filter_append, ← Htk.out, List.filter_cons_of_pos Hkp.out, List.filter_nil]
              rw [take_snocT (x := (⟨f0, f1, f2, f3, f4⟩ : Tb)) (by simp [show i < d.length by omega])]
              rw [List.take_set_of_le (Nat.le_refl i)]
            · have e1 := congrArg (List.drop 1) Hdr.out
              rw [List.drop_set_of_lt (by omega)]
              simpa [List.drop_drop, Nat.add_comm] using e1
            · exact (Hb1.out.trans (hg3.mono (Nat.le_trans hBw Hb1.out.size))).grown hgr4 (Nat.le_trans (Nat.le_trans hBw Hb1.out.size) hg3.size) (fun k hk => by cases hk; exact hBg3))
          clear hown4 hgr4 hown3 hg3 hgr3
          go_wp2
          go_roundw
          case rel => exact Hrel.out
          case measure => simp [intOf]; omega
      · obtain rfl : j = l.length := by omega
        rw [List.take_length] at htk
        obtain ⟨cur, hgr, hBg2, hn2, hcm2, hs2, ht2⟩ := own_block hown
        have hcsz : ∀ q, q < (l.length - i) * 5 → (wr.cell? ⟨g, i * 5 + q, none⟩).isSome = true := fun q hq => by
          have : i * 5 + q < cur.size := by rw [hs2]; omega
          simp [World.cell?, hgr, this]
        obtain ⟨cs, hcr⟩ := run_clearT wr g (i * 5) (l.length - i) (cap - i) (by omega) hcsz (fun q _ => hown.frozenAt _)
        obtain ⟨cur', hg', hs', ht', hgr'⟩ := setCells_block cs (i * 5) wr cur _ _ hgr
        have Hfin : Hid (Own B (wr.setCells g (i * 5) cs) (.slice (some ⟨g, 0, none⟩) i cap) (l.filter (keepT ks)) ∧ Below B w (wr.setCells g (i * 5) cs)) := Lib.hid (by
          have hil : (l.filter (keepT ks)).length = i := by rw [← htk, List.length_take, hdl]; omega
          refine ⟨⟨flat_len enc5 _, .inr ⟨g, cap, cur', by rw [hil], hBg2, hg', by omega, hcm2, by rw [hs', hs2], ?_⟩⟩, hbel.grown hgr' (Nat.le_trans hBw hbel.size) (fun k hk => by cases hk; exact hBg2)⟩
          rw [hil, ht' (i * 5) (Nat.le_refl _), ← htk, tcells, ← flat_take enc5 d i (by omega), ← tcells, ← ht2, List.take_take, Nat.min_eq_left (by omega)])
        have hi1 : (i : Int) ≤ (l.length : Int) := by omega
        have hi00 : (0 : Int) ≤ (i : Int) := by omega
        have hic : (l.length : Int) ≤ (cap : Int) := by omega
        have hsub : cap - i ≠ 0 := by omega
        clear hcsz hg' hs' ht' hgr' hgr hown htk hdr hbel ht2 hs2
        generalize wr.setCells g (i * 5) cs = W2 at *
        go_wp2_with fail
        go_ret
        exact ⟨_, rfl, Hfin.out.1, Hfin.out.2⟩

theorem del_none (w : World) (fv : Value) : Calls Tryd.prog 21 #[.slice none 0 0, fv] w fun e w' => e = .returned (.slice none 0 0) ∧ w' = w := by
  go_enter Tryd.func21, Tryd.ntmps21
  go_wp2_with fail
  (with_reducible refine (idxF_none _ _ _ _).mono ?_)
  rintro e w1 ⟨rfl, rfl⟩
  go_wp2
  go_ret
  exact ⟨rfl, rfl⟩

theorem del_any {B : Nat} {w : World} {v : Value} {l : List Tb} (h : Own B w v l) (hlen : l.length < 1000000000) (hBw : B ≤ w.heap.size) {eb : Nat} (heb : eb < B) {av dv : Value} {s n wl : Int} {ks : List Int} (hb : w.heap[eb]? = some (.cells #[av, dv, .int .u64 s, .int .i64 n, .int .i64 wl] 31 (0, 0)))
    {w0 : World} (hw0 : Below B w0 w) (hd : Ints w0 dv ks) (hB0 : w0.heap.size ≤ B) (hks : ks.length ≤ 1000000000) :
    Calls Tryd.prog 21 #[v, .func (.func 22) #[] #[.pointer (some ⟨eb, 0, none⟩)]] w fun e w' => ∃ v', e = .returned v' ∧ Own B w' v' (l.filter (keepT ks)) ∧ Below B w w' := by
  rcases h.2 with ⟨rfl, h0⟩ | ⟨g, cap, cur, rfl, _⟩
  · have hl : l = [] := List.eq_nil_of_length_eq_zero h0
    subst hl
    exact (del_none w _).mono fun e w' ⟨he, hw⟩ => ⟨_, he, World.ownsRow_nil _ _ _ _, by rw [hw]; exact Below.refl _ _⟩
  · exact del_some h hlen hBw heb hb hw0 hd hB0 hks
end Go.Proofs.YtpdbjmodgiokmaaDoor
