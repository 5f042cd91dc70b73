/- manifest.apply: what an edit makes of a version, as data; its walk. -/
import Derived.Test.YtpdbjmodgiokmaaDoorM5
namespace Go.Proofs.YtpdbjmodgiokmaaDoor
open Go.RowKit Go.Gl

structure VerD where
  tabs : List Tb
  seq : Int
  next : Int
  wal : Int

structure EdD where
  add : List Tb
  drop : List Int
  seq : Int
  next : Int
  wal : Int

def verZero : VerD := ⟨[], 0, 0, 0⟩

/-- Is one of the files that are to be dropped not there, or named twice? -/
def dropsBad (l : List Tb) : List Int → List Int → Bool
  | _, [] => false
  | pre, n :: r => (!hasF l n || pre.contains n) || dropsBad l (pre ++ [n]) r

/-- May a table not be added? -/
def addBad (l : List Tb) (t : Tb) : Bool :=
  decide (t.file < 0) || (hasF l t.file || (decide (t.level < 0) || (decide (6 < t.level) || (!(Op.bytesLess t.first.toList t.last.toList || t.first.toList == t.last.toList) || (decide (t.size < 0) || (decide (1099511627776 < t.file) || decide (1099511627776 < t.size)))))))

def addsD : List Tb → List Tb → Option (List Tb)
  | l, [] => some l
  | l, t :: r => if addBad l t = true then none else addsD (l ++ [t]) r

def numsBad (v : VerD) (e : EdD) : Bool :=
  ((e.seq != 0) && decide (e.seq < v.seq)) || (((e.next != 0) && decide (e.next < v.next)) || (((e.wal != 0) && decide (e.wal < v.wal)) || (decide (1099511627776 < e.next) || decide (1099511627776 < e.wal))))

/-- The error's number, and the version. -/
def applyD (v : VerD) (e : EdD) : Int × VerD :=
  if dropsBad v.tabs [] e.drop = true then (4, verZero) else
  match addsD (v.tabs.filter (keepT e.drop)) e.add with
  | none => (1, verZero)
  | some l =>
    if 65536 < (sortD l).length then (1, verZero) else
    if sharedD (sortD l) = true then (15, verZero) else
    if numsBad v e = true then (1, verZero) else
    (0, ⟨sortD l, or2 e.seq v.seq, or2 e.next v.next, or2 e.wal v.wal⟩)

/-- A row of tables that can be read. -/
def Tabs (w : World) (v : Value) (l : List Tb) : Prop :=
  ∃ a c, v = .slice a l.length c ∧ (l = [] ∨ ∃ b o, a = some ⟨b, o, none⟩ ∧ b < w.heap.size ∧ Rd w b o encTb 5 l)

theorem Tabs.grow {w w' : World} {v : Value} {l : List Tb} (h : Tabs w v l) (hg : Grow w w') : Tabs w' v l := by
  obtain ⟨a, c, hv, h⟩ := h
  refine ⟨a, c, hv, ?_⟩
  rcases h with h | ⟨b, o, ha, hb, hr⟩
  · exact .inl h
  · exact .inr ⟨b, o, ha, Nat.lt_of_lt_of_le hb hg.size, hr.grow hb hg⟩

def APost (w : World) (r : Int × VerD) (e : Ending) (w' : World) : Prop :=
  ∃ v', e = .returned (.tuple #[.agg (verCells v' r.2.seq r.2.next r.2.wal), .int .i64 r.1]) ∧ Own w.heap.size w' v' r.2.tabs ∧ Grow w w'

abbrev edCells (av dv : Value) (s n wl : Int) : Array Value := #[av, dv, .int .u64 s, .int .i64 n, .int .i64 wl]

/-- The three boxes of apply: the version, the edit, what comes out. -/
structure Boxes (w wr : World) (cv : Value) (s n wl : Int) (av dv : Value) (es en ew : Int) : Prop where
  vb : wr.heap[w.heap.size]? = some (.cells (verCells cv s n wl) 27 (0, 0))
  eb : wr.heap[w.heap.size + 1]? = some (.cells (edCells av dv es en ew) 31 (0, 0))
  rb : wr.heap[w.heap.size + 1 + 1]? = some (.cells (verCells (.slice none 0 0) 0 0 0) 27 (0, 0))
  gr : Grow w wr

theorem Boxes.grow {w wr wr' : World} {cv : Value} {s n wl : Int} {av dv : Value} {es en ew : Int} (h : Boxes w wr cv s n wl av dv es en ew) (hg : Grow wr wr') : Boxes w wr' cv s n wl av dv es en ew :=
  ⟨hg.heap h.vb, hg.heap h.eb, hg.heap h.rb, h.gr.trans hg⟩

theorem Boxes.start (w : World) (cv : Value) (s n wl : Int) (av dv : Value) (es en ew : Int) : Boxes w (((w.alloc (.cells (verCells cv s n wl) 27)).alloc (.cells (edCells av dv es en ew) 31)).alloc (.cells (verCells (.slice none 0 0) 0 0 0) 27)) cv s n wl av dv es en ew := by
  refine ⟨?_, ?_, ?_, by (repeat (first | exact Below.refl _ _ | assumption | refine Below.drew ?_ | refine bDrewN ?_ | refine Below.setCell ?_ (by first | omega | (simp <;> omega)) _ | refine Below.alloc ?_ (by first | omega | (simp <;> omega)) _))⟩
  · rw [heap_alloc_old _ _ (by simp; omega), heap_alloc_old _ _ (by simp)]; exact heap_alloc_new _ _
  · rw [heap_alloc_old _ _ (by simp)]
    have := heap_alloc_new (w.alloc (.cells (verCells cv s n wl) 27)) (.cells (edCells av dv es en ew) 31)
    simpa using this
  · have := heap_alloc_new ((w.alloc (.cells (verCells cv s n wl) 27)).alloc (.cells (edCells av dv es en ew) 31)) (.cells (verCells (.slice none 0 0) 0 0 0) 27)
    simpa using this

theorem Boxes.below {w w1 w2 : World} {B : Nat} {cv : Value} {s n wl : Int} {av dv : Value} {es en ew : Int} (h : Boxes w w1 cv s n wl av dv es en ew) (hb : Below B w1 w2) (hB : w.heap.size + 1 + 1 < B) : Boxes w w2 cv s n wl av dv es en ew :=
  ⟨by rw [hb.block _ (by omega)]; exact h.vb, by rw [hb.block _ (by omega)]; exact h.eb, by rw [hb.block _ hB]; exact h.rb, Below.trans h.gr (hb.mono (by omega))⟩

theorem Boxes.grown {w w1 w2 : World} {r : Option Nat} {B : Nat} {cv : Value} {s n wl : Int} {av dv : Value} {es en ew : Int} (h : Boxes w w1 cv s n wl av dv es en ew) (hg : w1.grownBy w2 r) (hr : ∀ k, r = some k → B ≤ k) (hB : w.heap.size + 1 + 1 < B) : Boxes w w2 cv s n wl av dv es en ew := by
  have l1 := lt_of_getElem? h.vb
  have l2 := lt_of_getElem? h.eb
  have l3 := lt_of_getElem? h.rb
  have hne : ∀ k, k < B → some k ≠ r := fun k hk e => by have := hr k e.symm; omega
  exact ⟨by rw [hg.block _ l1 (hne _ (by omega))]; exact h.vb, by rw [hg.block _ l2 (hne _ (by omega))]; exact h.eb, by rw [hg.block _ l3 (hne _ hB)]; exact h.rb, h.gr.grown hg h.gr.size (fun k hk => by have := hr k hk; omega)⟩

theorem Boxes.setV {w wr : World} {cv : Value} {s n wl : Int} {av dv : Value} {es en ew : Int} (h : Boxes w wr cv s n wl av dv es en ew) (cv' : Value) : Boxes w (wr.setCell ⟨w.heap.size, 0, none⟩ cv') cv' s n wl av dv es en ew :=
  ⟨setCell_heap h.vb 0 cv', (Below.heap_setCell _ _ _ _ (by show w.heap.size + 1 ≠ w.heap.size; omega)).trans h.eb, (Below.heap_setCell _ _ _ _ (by show w.heap.size + 1 + 1 ≠ w.heap.size; omega)).trans h.rb, h.gr.setCell (Nat.le_refl _) _⟩

def AddInv (w : World) (B1 : Nat) (V : VerD) (E : EdD) (av dv : Value) (iv : Value) (wr : World) : Prop :=
  ∃ (i : Nat) (cv : Value) (cur : List Tb), iv = .int .i64 i ∧ i ≤ E.add.length ∧ Boxes w wr cv V.seq V.next V.wal av dv E.seq E.next E.wal ∧ Own B1 wr cv cur ∧ addsD (V.tabs.filter (keepT E.drop)) E.add = addsD cur (E.add.drop i) ∧ cur.length ≤ 10000 + i ∧ B1 ≤ wr.heap.size

theorem adds_step {l : List Tb} {add : List Tb} {i : Nat} {t : Tb} (h : add[i]? = some t) : addsD l (add.drop i) = if addBad l t = true then none else addsD (l ++ [t]) (add.drop (i + 1)) := by
  obtain ⟨hi, rfl⟩ := List.getElem?_eq_some_iff.1 h
  rw [List.drop_eq_getElem_cons hi, addsD]

def DropInv (W0 : World) (l : List Tb) (drop : List Int) (iv : Value) (wr : World) : Prop :=
  ∃ i : Nat, iv = .int .i64 i ∧ i ≤ drop.length ∧ dropsBad l [] drop = dropsBad l (drop.take i) (drop.drop i) ∧ Grow W0 wr

theorem drops_step {l : List Tb} {drop : List Int} {i : Nat} {n : Int} (h : drop[i]? = some n) : dropsBad l (drop.take i) (drop.drop i) = ((!hasF l n || (drop.take i).contains n) || dropsBad l (drop.take (i + 1)) (drop.drop (i + 1))) := by
  obtain ⟨hi, rfl⟩ := List.getElem?_eq_some_iff.1 h
  rw [List.drop_eq_getElem_cons hi, dropsBad, take_snocT (List.getElem?_eq_getElem hi)]
end Go.Proofs.YtpdbjmodgiokmaaDoor
