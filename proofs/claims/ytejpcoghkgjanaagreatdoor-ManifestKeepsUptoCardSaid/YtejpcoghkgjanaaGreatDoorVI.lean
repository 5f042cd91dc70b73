/- Merged out of MP, Mr, MA: helpers. -/
import Derived.Test.YtejpcoghkgjanaaGreatDoorVH
import Derived.Test.YtejpcoghkgjanaaGreatDoorVA
/- The plain law of ManifestSteps: edits one behind the other; tables in strict order. -/
namespace Go.Proofs.YtejpcoghkgjanaaGreatDoor.Mn
open Go.RowKit Go.Gl

/-- Files are each there once. -/
def Once (l : List Tb) : Prop := (l.map Tb.file).Nodup

theorem addsD_once : ∀ {r l l' : List Tb}, Once l → addsD l r = some l' → Once l'
  | [], l, l', h, he => by simp [addsD] at he; subst he; exact h
  | t :: r, l, l', h, he => by
    unfold addsD at he
    split at he
    · cases he
    · rename_i hb
      refine addsD_once ?_ he
      have hf : hasF l t.file = false := by
        cases hh : hasF l t.file with
        | false => rfl
        | true => exact absurd (by simp only [addBad, hh, Bool.true_or, Bool.or_true]) hb
      unfold Once
      rw [List.map_append]
      refine List.nodup_append.2 ⟨h, by simp, ?_⟩
      intro a ha b hb'
      simp only [List.map_cons, List.map_nil, List.mem_singleton] at hb'
      subst hb'
      intro e
      obtain ⟨x, hx, rfl⟩ := List.mem_map.1 ha
      have : hasF l t.file = true := List.any_eq_true.2 ⟨x, hx, by simpa using e⟩
      rw [hf] at this; cases this

theorem applyD_once {v : VerD} {e : EdD} (h : Once v.tabs) : Once (applyD v e).2.tabs := by
  have hz : Once verZero.tabs := by simp [Once, verZero]
  unfold applyD
  split
  · exact hz
  · split
    · exact hz
    · rename_i l hl
      have h1 : Once (v.tabs.filter (keepT e.drop)) := h.sublist (List.filter_sublist.map _)
      have h2 := addsD_once h1 hl
      split
      · exact hz
      · split
        · exact hz
        · split
          · exact hz
          · exact ((sortD_perm l).map Tb.file).nodup_iff.2 h2

/-- Tables in strict order. -/
def Strict (l : List Tb) : Prop := l.Pairwise ltT

theorem strict_of {l : List Tb} (h : Once l) : Strict (sortD l) := by
  have h1 : Once (sortD l) := ((sortD_perm l).map Tb.file).nodup_iff.2 h
  have h2 := sortD_sorted l
  have h3 : (sortD l).Pairwise (fun x y => x.file ≠ y.file) := List.pairwise_map.1 h1
  refine (h2.and h3).imp fun {a b} hab => ?_
  by_cases hl : ltT a b
  · exact hl
  · exact absurd (ltT_tri a b hl hab.1).2.2 hab.2

theorem applyD_strict {v : VerD} {e : EdD} (h : Once v.tabs) : Strict (applyD v e).2.tabs := by
  have hz : Strict verZero.tabs := List.Pairwise.nil
  unfold applyD
  split
  · exact hz
  · split
    · exact hz
    · rename_i l hl
      have h1 : Once (v.tabs.filter (keepT e.drop)) := h.sublist (List.filter_sublist.map _)
      have h2 := addsD_once h1 hl
      split
      · exact hz
      · split
        · exact hz
        · split
          · exact hz
          · exact strict_of h2

/-- An edit that is refused gives the zero version. -/
theorem applyD_zero (v : VerD) (e : EdD) (h : (applyD v e).1 ≠ 0) : (applyD v e).2 = verZero := by
  revert h
  unfold applyD
  split
  · intro _; rfl
  · split
    · intro _; rfl
    · split
      · intro _; rfl
      · split
        · intro _; rfl
        · split
          · intro _; rfl
          · intro h; exact absurd rfl h

theorem applyAll_snoc : ∀ {ts : List EdD} {v v' : VerD} {e : EdD}, applyAllD v ts = (0, v') → (applyD v' e).1 = 0 → applyAllD v (ts ++ [e]) = (0, (applyD v' e).2)
  | [], v, v', e, h, he => by
    simp only [applyAllD, Prod.mk.injEq, true_and] at h
    subst h
    simp only [List.nil_append, applyAllD, he, if_true]
  | t :: ts, v, v', e, h, he => by
    unfold applyAllD at h
    by_cases ht : (applyD v t).1 = 0
    · rw [if_pos ht] at h
      rw [List.cons_append, applyAllD, if_pos ht]
      exact applyAll_snoc h he
    · rw [if_neg ht] at h
      exact absurd (congrArg Prod.fst h) ht

theorem applyAll_one (v : VerD) (e : EdD) : applyAllD v [e] = if (applyD v e).1 = 0 then (0, (applyD v e).2) else ((applyD v e).1, verZero) := rfl
end Go.Proofs.YtejpcoghkgjanaaGreatDoor.Mn

/- Region 26 of manifest.apply (three sums of two, laid in any order): its slots and its world. -/
namespace Go.Proofs.YtejpcoghkgjanaaGreatDoor.Mn
open Go.RowKit Go.Gl

/-- The world while region 26 runs: which of the three numbers have been laid. -/
structure T26 (w : World) (B1 : Nat) (tv : Value) (tabs : List Tb) (V : VerD) (E : EdD) (av dv : Value) (b1 b2 b3 : Bool) (W : World) : Prop where
  own : Own B1 W tv tabs
  vb : W.heap[w.heap.size]? = some (.cells (verCells tv (cond b1 (or2 E.seq V.seq) V.seq) (cond b2 (or2 E.next V.next) V.next) (cond b3 (or2 E.wal V.wal) V.wal)) 38 (0, 0))
  eb : W.heap[w.heap.size + 1]? = some (.cells (edCells av dv E.seq E.next E.wal) 41 (0, 0))
  rb : W.heap[w.heap.size + 1 + 1]? = some (.cells (verCells (.slice none 0 0) 0 0 0) 38 (0, 0))
  below : Below w.heap.size w W

section
variable {w : World} {B1 : Nat} {tv : Value} {tabs : List Tb} {V : VerD} {E : EdD} {av dv : Value} {b1 b2 b3 : Bool} {W W' : World}

theorem T26.grow (h : T26 w B1 tv tabs V E av dv b1 b2 b3 W) (hg : Grow W W') : T26 w B1 tv tabs V E av dv b1 b2 b3 W' :=
  ⟨owns_grow h.own hg, hg.heap h.vb, hg.heap h.eb, hg.heap h.rb, h.below.trans (hg.mono h.below.size)⟩

theorem T26.set1 (h : T26 w B1 tv tabs V E av dv b1 b2 b3 W) : T26 w B1 tv tabs V E av dv true b2 b3 (W.setCell ⟨w.heap.size, 1, none⟩ (.int .u64 (or2 E.seq V.seq))) :=
  ⟨own_other h.own h.vb (by decide), setCell_heap h.vb 1 _, (Below.heap_setCell _ _ _ _ (by show w.heap.size + 1 ≠ w.heap.size; omega)).trans h.eb, (Below.heap_setCell _ _ _ _ (by show w.heap.size + 1 + 1 ≠ w.heap.size; omega)).trans h.rb, h.below.setCell (Nat.le_refl _) _⟩
theorem T26.set2 (h : T26 w B1 tv tabs V E av dv b1 b2 b3 W) : T26 w B1 tv tabs V E av dv b1 true b3 (W.setCell ⟨w.heap.size, 2, none⟩ (.int .i64 (or2 E.next V.next))) :=
  ⟨own_other h.own h.vb (by decide), setCell_heap h.vb 2 _, (Below.heap_setCell _ _ _ _ (by show w.heap.size + 1 ≠ w.heap.size; omega)).trans h.eb, (Below.heap_setCell _ _ _ _ (by show w.heap.size + 1 + 1 ≠ w.heap.size; omega)).trans h.rb, h.below.setCell (Nat.le_refl _) _⟩
theorem T26.set3 (h : T26 w B1 tv tabs V E av dv b1 b2 b3 W) : T26 w B1 tv tabs V E av dv b1 b2 true (W.setCell ⟨w.heap.size, 3, none⟩ (.int .i64 (or2 E.wal V.wal))) :=
  ⟨own_other h.own h.vb (by decide), setCell_heap h.vb 3 _, (Below.heap_setCell _ _ _ _ (by show w.heap.size + 1 ≠ w.heap.size; omega)).trans h.eb, (Below.heap_setCell _ _ _ _ (by show w.heap.size + 1 + 1 ≠ w.heap.size; omega)).trans h.rb, h.below.setCell (Nat.le_refl _) _⟩
end

def T26L (w : World) (B1 : Nat) (tv : Value) (tabs : List Tb) (V : VerD) (E : EdD) (av dv : Value) (l : Array Bool) (_ : Act) (W : World) : Prop := T26 w B1 tv tabs V E av dv (l.getD 19 false) (l.getD 21 false) (l.getD 23 false) W

section
variable {w : World} {B1 : Nat} {tv : Value} {tabs : List Tb} {V : VerD} {E : EdD} {av dv : Value} {W W' : World} {l : Array Bool} {a a' : Act}
theorem T26L.other (i : Nat) (h1 : i ≠ 19) (h2 : i ≠ 21) (h3 : i ≠ 23) (h : T26L w B1 tv tabs V E av dv l a W) : T26L w B1 tv tabs V E av dv (l.setIfInBounds i true) a' W := by
  unfold T26L
  rw [getD_set_ne false h1, getD_set_ne false h2, getD_set_ne false h3]
  exact h
theorem T26L.grow (h : T26L w B1 tv tabs V E av dv l a W) (hg : Grow W W') : T26L w B1 tv tabs V E av dv l a W' := T26.grow h hg
theorem T26L.st1 (hs : 19 < l.size) (h : T26L w B1 tv tabs V E av dv l a W) : T26L w B1 tv tabs V E av dv (l.setIfInBounds 19 true) a' (W.setCell ⟨w.heap.size, 1, none⟩ (.int .u64 (or2 E.seq V.seq))) := by
  unfold T26L
  rw [listed_same hs, getD_set_ne false (show 19 ≠ 21 by decide), getD_set_ne false (show 19 ≠ 23 by decide)]
  exact T26.set1 h
theorem T26L.st2 (hs : 21 < l.size) (h : T26L w B1 tv tabs V E av dv l a W) : T26L w B1 tv tabs V E av dv (l.setIfInBounds 21 true) a' (W.setCell ⟨w.heap.size, 2, none⟩ (.int .i64 (or2 E.next V.next))) := by
  unfold T26L
  rw [listed_same hs, getD_set_ne false (show 21 ≠ 19 by decide), getD_set_ne false (show 21 ≠ 23 by decide)]
  exact T26.set2 h
theorem T26L.st3 (hs : 23 < l.size) (h : T26L w B1 tv tabs V E av dv l a W) : T26L w B1 tv tabs V E av dv (l.setIfInBounds 23 true) a' (W.setCell ⟨w.heap.size, 3, none⟩ (.int .i64 (or2 E.wal V.wal))) := by
  unfold T26L
  rw [listed_same hs, getD_set_ne false (show 23 ≠ 19 by decide), getD_set_ne false (show 23 ≠ 21 by decide)]
  exact T26.set3 h
theorem T26L.vb0 (h : T26L w B1 tv tabs V E av dv l a W) : W.heap[w.heap.size]? = some (.cells (verCells tv (cond (l.getD 19 false) (or2 E.seq V.seq) V.seq) (cond (l.getD 21 false) (or2 E.next V.next) V.next) (cond (l.getD 23 false) (or2 E.wal V.wal) V.wal)) 38 (0, 0)) := T26.vb h
theorem T26L.eb (h : T26L w B1 tv tabs V E av dv l a W) : W.heap[w.heap.size + 1]? = some (.cells (edCells av dv E.seq E.next E.wal) 41 (0, 0)) := T26.eb h
end

/-- All blocks but one stay. -/
def Rest (vb : Nat) (W W' : World) : Prop := ∀ b o, b ≠ vb → W.heap[b]? = some o → W'.heap[b]? = some o
theorem Rest.refl (vb : Nat) (W : World) : Rest vb W W := fun _ _ _ h => h
theorem Rest.grow {vb : Nat} {W W' : World} (h : Grow W W') : Rest vb W W' := fun _ _ _ hb => h.heap hb
theorem Rest.set (vb : Nat) (W : World) (i : Nat) (v : Value) : Rest vb W (W.setCell ⟨vb, i, none⟩ v) := fun _ _ hb h => (Below.heap_setCell _ _ _ _ hb).trans h

def S26 (w : World) (V : VerD) (E : EdD) (i : Nat) (v : Value) (W : World) : Prop :=
  match i with
  | 0 => v = .pointer (some ⟨w.heap.size + 1, 2, none⟩)
  | 1 => v = .int .u64 E.seq
  | 2 => v = .pointer (some ⟨w.heap.size, 1, none⟩)
  | 3 => v = .int .u64 V.seq
  | 4 => ∃ b, b ≠ w.heap.size ∧ v = .slice (some ⟨b, 0, none⟩) 2 2 ∧ W.heap[b]? = some (.cells #[.int .u64 E.seq, .int .u64 V.seq] 36 (0, 0))
  | 5 => v = .int .u64 (or2 E.seq V.seq)
  | 6 => v = .pointer (some ⟨w.heap.size + 1, 3, none⟩)
  | 7 => v = .int .i64 E.next
  | 8 => v = .pointer (some ⟨w.heap.size, 2, none⟩)
  | 9 => v = .int .i64 V.next
  | 10 => ∃ b, b ≠ w.heap.size ∧ v = .slice (some ⟨b, 0, none⟩) 2 2 ∧ W.heap[b]? = some (.cells #[.int .i64 E.next, .int .i64 V.next] 3 (0, 0))
  | 11 => v = .int .i64 (or2 E.next V.next)
  | 12 => v = .pointer (some ⟨w.heap.size + 1, 4, none⟩)
  | 13 => v = .int .i64 E.wal
  | 14 => v = .pointer (some ⟨w.heap.size, 3, none⟩)
  | 15 => v = .int .i64 V.wal
  | 16 => ∃ b, b ≠ w.heap.size ∧ v = .slice (some ⟨b, 0, none⟩) 2 2 ∧ W.heap[b]? = some (.cells #[.int .i64 E.wal, .int .i64 V.wal] 3 (0, 0))
  | 17 => v = .int .i64 (or2 E.wal V.wal)
  | 18 => v = .pointer (some ⟨w.heap.size, 1, none⟩)
  | 20 => v = .pointer (some ⟨w.heap.size, 2, none⟩)
  | 22 => v = .pointer (some ⟨w.heap.size, 3, none⟩)
  | _ => True

theorem S26.keep {w : World} {V : VerD} {E : EdD} : ∀ (j : Nat) (v : Value) (W W' : World), Rest w.heap.size W W' → S26 w V E j v W → S26 w V E j v W' := by
  intro j v W W' hR h
  unfold S26 at h
  split at h <;> first
    | exact h
    | (obtain ⟨b, hb, hv, hc⟩ := h; exact ⟨b, hb, hv, hR _ _ hb hc⟩)
    | (unfold S26; split <;> first | trivial | (exfalso; simp_all))
end Go.Proofs.YtejpcoghkgjanaaGreatDoor.Mn

/- few; sameTables and SameVersion at versions that are alike. -/
namespace Go.Proofs.YtejpcoghkgjanaaGreatDoor.Mn
open Go.RowKit Go.Gl

theorem neq_tb (x : Tb) (w : World) : (binOp .neq 51 (.agg #[.int .i64 x.file, .int .i64 x.level, .string x.first, .string x.last, .int .i64 x.size]) (.agg #[.int .i64 x.file, .int .i64 x.level, .string x.first, .string x.last, .int .i64 x.size])).run Tryz.prog w = .ok (.bool false) w := by
  have u3 := Tryz.underlying3
  have a3 := Tryz.isAgg3
  have z3 := Tryz.sizeOf3
  have u9 := Tryz.underlying9
  have a9 := Tryz.isAgg9
  have z9 := Tryz.sizeOf9
  have hS : Tryz.prog.underlying 51 = some (.struct (Tryz.prog.fieldsOf 51)) := by kernel_rfl
  have hp : Tryz.prog.stoodInHeld 51 = false := by kernel_rfl
  rw [run_neq_struct, show (10000 : Nat) = 9999 + 1 from rfl, run_equalIn_struct w 9999 51 _ _ hS hp]
  simp only [Program.fieldsOf, Tryz.underlying51]
  go_simp
  try simp

theorem guard_tb (op : BinOp) (a b : Operand) (xs ys : Array Value) (w : World) : (eqGuard op 51 a b (.agg xs) (.agg ys)).run Tryz.prog w = .ok () w := run_eqGuard_agg w op 51 a b xs ys (by kernel_rfl)

def SameInv (w : World) (n : Nat) (iv : Value) (wr : World) : Prop := ∃ i : Nat, iv = .int .i64 i ∧ i ≤ n ∧ Grow w wr

/-- What can be read of a version's tables. -/
theorem own_read {B : Nat} {w : World} {v : Value} {l : List Tb} (h : Own B w v l) : ∃ a c, v = .slice a l.length c ∧ (0 < l.length → ∃ g, a = some ⟨g, 0, none⟩ ∧ g < w.heap.size ∧ ∀ (j : Nat) (t : Tb), l[j]? = some t → w.cell? ⟨g, j * 5, none⟩ = some (.int .i64 t.file) ∧ w.cell? ⟨g, j * 5 + 1, none⟩ = some (.int .i64 t.level) ∧ w.cell? ⟨g, j * 5 + 2, none⟩ = some (.string t.first) ∧ w.cell? ⟨g, j * 5 + 3, none⟩ = some (.string t.last) ∧ w.cell? ⟨g, j * 5 + 4, none⟩ = some (.int .i64 t.size)) := by
  rcases h.2 with ⟨rfl, h0⟩ | ⟨g, cap, cur, rfl, hB, hg, hr⟩
  · exact ⟨none, 0, by rw [h0], fun h1 => by omega⟩
  · exact ⟨_, cap, rfl, fun _ => ⟨g, rfl, lt_of_getElem? hg, fun j t ht => own_cells h rfl ht⟩⟩

set_option maxRecDepth 100000 in
set_option maxHeartbeats 4000000 in
theorem same_tables {B1 B2 : Nat} {w : World} {v1 v2 : Value} {l : List Tb} (h1 : Own B1 w v1 l) (h2 : Own B2 w v2 l) (hlen : l.length < 1000000000) :
    Calls Tryz.prog 30 #[v1, v2] w fun e w' => e = .returned (.bool true) ∧ Grow w w' := by
  obtain ⟨a1, c1, rfl, hr1⟩ := own_read h1
  obtain ⟨a2, c2, rfl, hr2⟩ := own_read h2
  have Hr1 := Lib.hid hr1
  have Hr2 := Lib.hid hr2
  have hcl := Grow.cells (w := w)
  have hne : ((l.length : Int) != (l.length : Int)) = false := by simp
  clear h1 h2 hr1 hr2
  go_enter Tryz.func30, Tryz.ntmps30
  go_wp2
  go_loopw [5] (fun iv wr => SameInv w l.length iv wr) (fun iv _ => l.length - (intOf iv).toNat)
  case atStart => exact ⟨0, rfl, Nat.zero_le _, Grow.refl _⟩
  case round =>
    obtain ⟨i, rfl, hi, hg⟩ := hrel
    by_cases hlt : i < l.length
    · obtain ⟨t, ht⟩ : ∃ t, l[i]? = some t := ⟨l[i], by simp [hlt]⟩
      obtain ⟨g1, rfl, hgl1, hc1⟩ := Hr1.out (by omega)
      obtain ⟨g2, rfl, hgl2, hc2⟩ := Hr2.out (by omega)
      obtain ⟨p0, p1, p2, p3, p4⟩ := hc1 i t ht
      obtain ⟨q0, q1, q2, q3, q4⟩ := hc2 i t ht
      have hi0 : (0 : Int) ≤ (i : Int) := by omega
      have hi1 : (i : Int) < (l.length : Int) := by omega
      have hwi : IntKind.i64.wrap ((i : Int) + 1) = (i : Int) + 1 := IntWalk.i64_in _ (by omega)
      have hq1 := neq_tb t
      have hq2 := guard_tb
      have Hg := Lib.hid hg
      obtain ⟨f0, f1, f2, f3, f4⟩ := t
      dsimp only at p0 p1 p2 p3 p4 q0 q1 q2 q3 q4 hq1
      clear hc1 hc2 ht hg
      go_wp2_with fail
      refine wp_region_pi (fun W => Below w.heap.size w W) [(0, false), (1, false), (2, false), (3, false), (4, false), (5, false), (6, false), (7, false), (8, false)] (by kernel_rfl) (by kernel_rfl) (fun c a d v w h => by cases d <;> exact h) (Hg.out.trans (Grow.drew _)) ?_
      simp only [arrange, nth]
      repeat (first | (refine wpPi_quiet (v := ?_) (by rfl) (fun W hW => ?_) ?_; rotate_left; (obtain hW := hW; go_simp; with_reducible rfl); simp only [Act.put, List.setIfInBounds_toArray, List.set_cons_zero, List.set_cons_succ]) | (refine wpPi_off (by rfl) ?_; simp only [Act.put, List.setIfInBounds_toArray, List.set_cons_zero, List.set_cons_succ]))
      refine wpPi_nil ?_
      go_wp2
      go_roundw
      case rel => exact ⟨i + 1, rfl, hlt, Hg.out.trans (Grow.drew _)⟩
      case measure => simp [intOf]; omega
    · obtain rfl : i = l.length := by omega
      go_wp2
      go_ret
      exact ⟨rfl, hg⟩

set_option maxHeartbeats 4000000 in
theorem same_version {B1 B2 : Nat} {w : World} {v1 v2 : Value} {V : VerD} (h1 : Own B1 w v1 V.tabs) (h2 : Own B2 w v2 V.tabs) (hlen : V.tabs.length < 1000000000) :
    Calls Tryz.prog 11 #[.agg (verCells v1 V.seq V.next V.wal), .agg (verCells v2 V.seq V.next V.wal)] w fun e w' => e = .returned (.bool true) ∧ Grow w w' := by
  have hg0 : Grow w ((w.alloc (.cells (verCells v1 V.seq V.next V.wal) 38)).alloc (.cells (verCells v2 V.seq V.next V.wal) 38)) := by (repeat (first | exact Below.refl _ _ | assumption | refine Below.drew ?_ | refine bDrewN ?_ | refine Below.setCell ?_ (by first | omega | (simp <;> omega)) _ | refine Below.alloc ?_ (by first | omega | (simp <;> omega)) _))
  have hb1 : ((w.alloc (.cells (verCells v1 V.seq V.next V.wal) 38)).alloc (.cells (verCells v2 V.seq V.next V.wal) 38)).heap[w.heap.size]? = some (.cells (verCells v1 V.seq V.next V.wal) 38 (0, 0)) := (heap_alloc_old _ _ (by simp)).trans (heap_alloc_new _ _)
  have hb2 : ((w.alloc (.cells (verCells v1 V.seq V.next V.wal) 38)).alloc (.cells (verCells v2 V.seq V.next V.wal) 38)).heap[w.heap.size + 1]? = some (.cells (verCells v2 V.seq V.next V.wal) 38 (0, 0)) := by
    have := heap_alloc_new (w.alloc (.cells (verCells v1 V.seq V.next V.wal) 38)) (.cells (verCells v2 V.seq V.next V.wal) 38)
    simpa using this
  have hst := same_tables (owns_grow h1 hg0) (owns_grow h2 hg0) hlen
  obtain ⟨a1, c1, rfl⟩ := own_slice h1
  obtain ⟨a2, c2, rfl⟩ := own_slice h2
  obtain ⟨p0, p1, p2, p3⟩ := cells4 hb1
  obtain ⟨q0, q1, q2, q3⟩ := cells4 hb2
  have Hb1 := Lib.hid hb1
  have Hb2 := Lib.hid hb2
  have l1 := lt_of_getElem? hb1
  have l2 := lt_of_getElem? hb2
  have Hst := Lib.hid hst
  have Hg0 := Lib.hid hg0
  have e1 : (V.seq == V.seq) = true := by simp
  have e2 : (V.next == V.next) = true := by simp
  have e3 : (V.wal == V.wal) = true := by simp
  clear h1 h2 hb1 hb2 hst hg0
  go_enter Tryz.func11, Tryz.ntmps11
  go_wp2_with fail
  generalize (w.alloc (.cells (verCells (.slice a1 V.tabs.length c1) V.seq V.next V.wal) 38)).alloc (.cells (verCells (.slice a2 V.tabs.length c2) V.seq V.next V.wal) 38) = W1 at *
  (with_reducible refine Hst.out.mono ?_)
  rintro e w2 ⟨rfl, hg2⟩
  clear p0 p1 p2 p3 q0 q1 q2 q3
  obtain ⟨p0, p1, p2, p3⟩ := cells4 (hg2.heap Hb1.out)
  obtain ⟨q0, q1, q2, q3⟩ := cells4 (hg2.heap Hb2.out)
  have l3 := lt_of_getElem? (hg2.heap Hb1.out)
  have l4 := lt_of_getElem? (hg2.heap Hb2.out)
  go_wp2
  go_ret
  exact ⟨rfl, Hg0.out.trans hg2⟩

def FewInv (w : World) (n : Nat) (nv iv : Value) (wr : World) : Prop := ∃ (z : Int) (i : Nat), nv = .int .i64 z ∧ iv = .int .i64 i ∧ i ≤ n ∧ Grow w wr

set_option maxRecDepth 100000 in
set_option maxHeartbeats 4000000 in
theorem few_any {w : World} {av dv : Value} {E : EdD} (hA : Tabs w av E.add) (hD : Ints w dv E.drop) (hal : E.add.length ≤ 9223372036854775807) :
    Calls Tryz.prog 7 #[.agg (edCells av dv E.seq E.next E.wal)] w fun e w' => ∃ r : Bool, e = .returned (.bool r) ∧ (r = true → E.add.length ≤ 20 ∧ E.drop.length ≤ 20) ∧ Grow w w' := by
  have hg0 : Grow w (w.alloc (.cells (edCells av dv E.seq E.next E.wal) 41)) := Grow.alloc _ _
  have hb : (w.alloc (.cells (edCells av dv E.seq E.next E.wal) 41)).heap[w.heap.size]? = some (.cells (edCells av dv E.seq E.next E.wal) 41 (0, 0)) := heap_alloc_new _ _
  obtain ⟨aa, ac, rfl, har⟩ := hA
  obtain ⟨da, dc, rfl, _, _⟩ := hD
  obtain ⟨c0, c1, c2, c3, c4⟩ := cells5 hb
  have l1 := lt_of_getElem? hb
  have Hg0 := Lib.hid hg0
  have Har := Lib.hid har
  clear hb hg0 har
  go_enter Tryz.func7, Tryz.ntmps7
  go_wp2_with fail
  generalize w.alloc (.cells (edCells (.slice aa E.add.length ac) (.slice da E.drop.length dc) E.seq E.next E.wal) 41) = W1 at *
  have hcl := Grow.cells (w := W1)
  go_loopw [3, 4] (fun nv iv wr => FewInv W1 E.add.length nv iv wr) (fun _ iv _ => E.add.length - (intOf iv).toNat)
  case atStart => exact ⟨0, 0, rfl, rfl, Nat.zero_le _, Grow.refl _⟩
  case round =>
    obtain ⟨z, i, rfl, rfl, hi, hg⟩ := hrel
    have d0 := hcl wr w.heap.size 0 hg l1
    rw [c0] at d0
    have d1 := hcl wr w.heap.size 1 hg l1
    rw [c1] at d1
    by_cases hlt : i < E.add.length
    · obtain ⟨t, ht⟩ : ∃ t, E.add[i]? = some t := ⟨E.add[i], by simp [hlt]⟩
      obtain ⟨b, o, rfl, hbl, hrd⟩ : ∃ b o, aa = some ⟨b, o, none⟩ ∧ b < w.heap.size ∧ Rd w b o encTb 5 E.add := by
        rcases Har.out with h1 | h1
        · rw [h1] at hlt; simp at hlt
        · exact h1
      have hr := hrd.grow hbl Hg0.out i t ht
      have a2 := hr 2 _ rfl
      have a3 := hr 3 _ rfl
      have lb : b < W1.heap.size := Nat.lt_of_lt_of_le hbl Hg0.out.size
      obtain ⟨f0, f1, f2, f3, f4⟩ := t
      dsimp only at a2 a3
      have hi0 : (0 : Int) ≤ (i : Int) := by omega
      have hi1 : (i : Int) < (E.add.length : Int) := by omega
      have Hg := Lib.hid hg
      clear hr hrd ht hg
      go_wp2_with fail
      refine wp_region_pi (fun W => Below W1.heap.size W1 W) [(0, false), (1, false), (2, false), (3, false), (4, false), (5, false), (6, false), (7, false), (8, false), (9, false), (10, false), (11, false), (12, false), (13, false), (14, false), (15, false), (16, false), (17, false)] (by kernel_rfl) (by kernel_rfl) (fun c a d v w h => by cases d <;> exact h) (Hg.out.trans (Grow.drew _)) ?_
      simp only [arrange, nth]
      repeat (first | (refine wpPi_quiet (v := ?_) (by rfl) (fun W hW => ?_) ?_; rotate_left; (obtain hW := hW; go_simp; with_reducible rfl); simp only [Act.put, List.setIfInBounds_toArray, List.set_cons_zero, List.set_cons_succ]) | (refine wpPi_off (by rfl) ?_; simp only [Act.put, List.setIfInBounds_toArray, List.set_cons_zero, List.set_cons_succ]))
      refine wpPi_nil ?_
      go_wp2
      go_roundw
      case rel => exact ⟨_, i + 1, rfl, rfl, hlt, Hg.out.trans (Grow.drew _)⟩
      case measure => simp [intOf]; omega
    · obtain rfl : i = E.add.length := by omega
      have lw : w.heap.size < wr.heap.size := Nat.lt_of_lt_of_le l1 hg.size
      by_cases h1 : E.add.length ≤ 20
      · have h1' : decide ((E.add.length : Int) ≤ 20) = true := by simp; omega
        by_cases h2 : E.drop.length ≤ 20
        · have h2' : decide ((E.drop.length : Int) ≤ 20) = true := by simp; omega
          go_wp2
          go_ret
          exact ⟨decide (z ≤ 10000), rfl, fun _ => ⟨h1, h2⟩, Hg0.out.trans hg⟩
        · have h2' : decide ((E.drop.length : Int) ≤ 20) = false := by simp; omega
          go_wp2
          go_ret
          exact ⟨false, rfl, (fun h => by cases h), Hg0.out.trans hg⟩
      · have h1' : decide ((E.add.length : Int) ≤ 20) = false := by simp; omega
        go_wp2
        go_ret
        exact ⟨false, rfl, (fun h => by cases h), Hg0.out.trans hg⟩
end Go.Proofs.YtejpcoghkgjanaaGreatDoor.Mn
