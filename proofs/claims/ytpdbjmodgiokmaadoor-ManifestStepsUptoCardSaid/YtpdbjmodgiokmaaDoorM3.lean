/- Tables in memory: the sort, has, slices.Clone, slices.Contains, shared. -/
import Derived.Test.YtpdbjmodgiokmaaDoorM2
import Derived.Test.YtpdbjmodgiokmaaDoorGn
import Derived.Test.YtpdbjmodgiokmaaDoorLayP
import Derived.Shelf.SlicesQ.IndexFunc
import Derived.Shelf.SlicesG.Turned
import Derived.Shelf.SlicesE.Clone
namespace Go.Proofs.YtpdbjmodgiokmaaDoor
open Go.RowKit Go.Gl

theorem enc5 (x : Tb) : (encTb x).length = 5 := rfl
theorem encOne (x : Tb) : ∀ v ∈ encTb x, v.oneCell' = true := fun v hv => by
  simp only [encTb, List.mem_cons, List.not_mem_nil, or_false] at hv
  rcases hv with rfl | rfl | rfl | rfl | rfl <;> rfl
theorem tcellsOne (l : List Tb) : ∀ v ∈ tcells l, v.oneCell' = true := fun v hv => by
  obtain ⟨x, _, h⟩ := List.mem_flatMap.1 hv
  exact encOne x v h

/-- A version's tables: a row of its own. -/
abbrev Own (B : Nat) (w : World) (v : Value) (l : List Tb) : Prop := w.ownsRow B 38 5 v l.length (tcells l)

/-- What the sort makes of tables. -/
def sortD (l : List Tb) : List Tb := (Sort.pdq (ltOf cfTb) l.toArray 0 l.toArray.size (Lib.bitLen l.toArray.size) true true).toList

theorem sortD_perm (l : List Tb) : (sortD l).Perm l := by
  have h := (Sort.pdq_sorts (ltOf cfTb) swoTb l.toArray 0 l.toArray.size (Lib.bitLen l.toArray.size) true true (Nat.zero_le _) (Nat.le_refl _) (Or.inl rfl)).1
  unfold sortD
  generalize Sort.pdq (ltOf cfTb) l.toArray 0 l.toArray.size (Lib.bitLen l.toArray.size) true true = d at *
  have h2 := h.2.2
  have hs := h.1
  have e1 : d.extract 0 l.toArray.size = d := by rw [← hs]; simp
  have e2 : l.toArray.extract 0 l.toArray.size = l.toArray := by simp
  rw [e1, e2] at h2
  exact h2

theorem sortD_sorted (l : List Tb) : (sortD l).Pairwise (fun x y => ¬ ltT y x) := by
  have h := (Sort.pdq_sorts (ltOf cfTb) swoTb l.toArray 0 l.toArray.size (Lib.bitLen l.toArray.size) true true (Nat.zero_le _) (Nat.le_refl _) (Or.inl rfl))
  unfold sortD
  generalize Sort.pdq (ltOf cfTb) l.toArray 0 l.toArray.size (Lib.bitLen l.toArray.size) true true = d at *
  have hs := h.1.1
  rw [List.pairwise_iff_getElem]
  intro i j hi hj hij
  simp only [Array.length_toList] at hi hj
  have := h.2 i j (Nat.zero_le _) hij (by omega)
  rw [getElem!_pos d i hi, getElem!_pos d j hj, ltBf] at this
  exact this

theorem sort_any {B : Nat} {w : World} {v : Value} {l : List Tb} (h : Own B w v l) (hlen : l.length < 1000000000) :
    Calls Tryd.prog 23 #[v, .func (.func 8) #[] #[]] w fun e w' => e = .returned (.tuple #[]) ∧ Own B w' v (sortD l) ∧ w.grownBy w' v.ownBlock := by
  have hsl : (sortD l).length = l.length := (sortD_perm l).length_eq
  rcases h.2 with ⟨rfl, h0⟩ | ⟨g, cap, cur, rfl, hB, hg, hrest⟩
  · have hc := AnyF.slices_SortFunc_none Tryd.sortT none 0 (.func (.func 8) #[] #[]) w
    have hc' : Calls Tryd.prog 23 #[.slice none 0 0, .func (.func 8) #[] #[]] w _ := hc
    have hl : l = [] := List.eq_nil_of_length_eq_zero h0
    have hs : sortD l = [] := List.eq_nil_of_length_eq_zero (by rw [hsl]; exact h0)
    refine hc'.mono fun e w' ⟨he, hw⟩ => ⟨he, ?_, ?_⟩
    · rw [hw, hs]; exact World.ownsRow_nil _ _ _ _
    · rw [hw]; exact ⟨rfl, rfl, rfl, Nat.le_refl _, fun _ _ _ => rfl⟩
  · have eg : ∀ args w, (callFunc 8 args).run Tryd.prog w = .ok (.enter 8 args) w := enters_of Tryd.func8 (by kernel_rfl) rfl
    have hblk : g < w.heap.size := lt_of_getElem? hg
    have hcon := AnyQ.slices_SortFunc_eq Tryd.sortT 5 Tryd.isAgg38 Tryd.sizeOf38 encTb enc5 encOne cfTb swoTb 8 #[] g 0 cap l.toArray w eg (cmpLaysT g 0 l.toArray.size w) (holds_of_owns enc5 (by decide) h) hblk (by simp; omega)
    have hcon' : Calls Tryd.prog 23 #[.slice (some ⟨g, 0, none⟩) l.length cap, .func (.func 8) #[] #[]] w _ := hcon
    refine hcon'.mono fun e w' ⟨he, n, os, hw⟩ => ⟨he, ?_, ?_⟩
    · have h2 := owns_sortK enc5 (by decide) h n (Sort.pdq (ltOf cfTb) l.toArray 0 l.toArray.size (Lib.bitLen l.toArray.size) true true) os (by
        have := (Sort.pdq_sorts (ltOf cfTb) swoTb l.toArray 0 l.toArray.size (Lib.bitLen l.toArray.size) true true (Nat.zero_le _) (Nat.le_refl _) (Or.inl rfl)).1.1
        simpa using this)
      rw [hw]
      unfold Own
      rw [hsl]
      exact h2
    · rw [hw]; exact grown_sortK w g n _ os

/-- A row of ints that can be read. -/
def Ints (w : World) (v : Value) (ks : List Int) : Prop :=
  ∃ a c, v = .slice a ks.length c ∧ ks.length ≤ c ∧ (ks = [] ∨ ∃ b o, a = some ⟨b, o, none⟩ ∧ b < w.heap.size ∧ ∀ (j : Nat) (k : Int), ks[j]? = some k → w.cell? ⟨b, o + j, none⟩ = some (.int .i64 k))

theorem Ints.grow {w w' : World} {v : Value} {ks : List Int} (h : Ints w v ks) (hg : Grow w w') : Ints w' v ks := by
  obtain ⟨a, c, hv, hl, h⟩ := h
  refine ⟨a, c, hv, hl, ?_⟩
  rcases h with h | ⟨b, o, ha, hb, hc⟩
  · exact .inl h
  · refine .inr ⟨b, o, ha, Nat.lt_of_lt_of_le hb hg.size, fun j k hk => ?_⟩
    rw [Grow.cells _ _ _ hg hb]; exact hc j k hk

theorem contains_some (w : World) (b o n c : Nat) (ks : List Int) (x : Int) (hn : n ≤ ks.length) (hmax : ks.length ≤ 1000000000) (hc : ∀ (j : Nat) (k : Int), ks[j]? = some k → w.cell? ⟨b, o + j, none⟩ = some (.int .i64 k)) :
    Calls Tryd.prog 20 #[.slice (some ⟨b, o, none⟩) n c, .int .i64 x] w fun e w' => e = .returned (.bool ((ks.take n).contains x)) ∧ w' = w := by
  have h := AnyG.slices_Contains_int Tryd.contI b o n c ks x w hn (by omega) (fun j hj => by
    rw [hc j ks[j] (by simp [hj])]
    simp [List.getD, hj])
  exact h

theorem contains_none (w : World) (a : Option Addr) (c : Nat) (x : Int) : Calls Tryd.prog 20 #[.slice a 0 c, .int .i64 x] w fun e w' => e = .returned (.bool false) ∧ w' = w :=
  AnyG.slices_Contains_int_empty Tryd.contI a c x w

theorem contains_any {w : World} {v : Value} {ks : List Int} (h : Ints w v ks) (hmax : ks.length ≤ 1000000000) (x : Int) : Calls Tryd.prog 20 #[v, .int .i64 x] w fun e w' => e = .returned (.bool (ks.contains x)) ∧ w' = w := by
  obtain ⟨a, c, rfl, _, h⟩ := h
  cases ks with
  | nil => exact contains_none w a c x
  | cons k ks =>
    rcases h with h | ⟨b, o, rfl, hb, hc⟩
    · cases h
    · have := contains_some w b o (k :: ks).length c (k :: ks) x (Nat.le_refl _) hmax hc
      rw [List.take_length] at this
      exact this

/-- Has a table of some a file? -/
def hasF (l : List Tb) (f : Int) : Bool := l.any fun t => decide (t.file = f)

theorem has_clo (f : Int) (B : Nat) (w : World) (hB : B < w.heap.size) (hcell : w.cell? ⟨B, 0, none⟩ = some (.int .i64 f)) :
    PredBelow Tryd.prog 30 #[.pointer (some ⟨B, 0, none⟩)] (fun x => .agg (encTb x).toArray) (fun x => decide (x.file = f)) w := fun W x hb => by
  have hc : W.cell? ⟨B, 0, none⟩ = some (.int .i64 f) := (hb.cell (p := ⟨B, 0, none⟩) hB).trans hcell
  have hBW : B < W.heap.size := Nat.lt_of_lt_of_le hB hb.size
  have hne : B ≠ W.heap.size := by omega
  obtain ⟨x0, x1, x2, x3, x4⟩ := x
  show Calls Tryd.prog 30 #[.agg #[.int .i64 x0, .int .i64 x1, .string x2, .string x3, .int .i64 x4], .pointer (some ⟨B, 0, none⟩)] W _
  have hd : decide (x0 = f) = (x0 == f) := by by_cases h : x0 = f <;> simp [h]
  simp only [hd]
  go_enter Tryd.func30, Tryd.ntmps30
  go_wp2
  go_ret
  exact ⟨rfl, hb.alloc hb.size _⟩

theorem idxF_none (w : World) (a : Option Addr) (c : Nat) (fv : Value) : Calls Tryd.prog 32 #[.slice a 0 c, fv] w fun e w' => e = .returned (.int .i64 (-1)) ∧ w' = w := by
  go_enter Tryd.func32, Tryd.ntmps32
  go_wp2
  refine wp_loop_rounds 1 ?_
  rw [rounds_succ]
  go_wp2
  go_ret
  exact ⟨rfl, rfl⟩

theorem contF_none (w : World) (a : Option Addr) (c : Nat) (fv : Value) : Calls Tryd.prog 29 #[.slice a 0 c, fv] w fun e w' => e = .returned (.bool false) ∧ Below w.heap.size w w' := by
  go_enter Tryd.func29, Tryd.ntmps29
  go_wp2_with fail
  (with_reducible refine (idxF_none _ _ _ _).mono ?_)
  rintro e w' ⟨rfl, rfl⟩
  go_wp2
  go_ret
  exact ⟨rfl, Below.refl _ _⟩

theorem has_any {B : Nat} {w : World} {v : Value} {l : List Tb} (h : Own B w v l) (hlen : l.length < 1000000000) (f : Int) :
    Calls Tryd.prog 19 #[v, .int .i64 f] w fun e w' => e = .returned (.bool (hasF l f)) ∧ Grow w w' := by
  have hg0 : Grow w (w.alloc (.cells #[.int .i64 f] 3)) := Grow.alloc _ _
  have hbx : (w.alloc (.cells #[.int .i64 f] 3)).cell? ⟨w.heap.size, 0, none⟩ = some (.int .i64 f) := by simp
  have hcon : Calls Tryd.prog 29 #[v, .func (.func 30) #[] #[.pointer (some ⟨w.heap.size, 0, none⟩)]] (w.alloc (.cells #[.int .i64 f] 3)) fun e w' => e = .returned (.bool (hasF l f)) ∧ Below (w.alloc (.cells #[.int .i64 f] 3)).heap.size (w.alloc (.cells #[.int .i64 f] 3)) w' := by
    rcases h.2 with ⟨rfl, h0⟩ | ⟨g, cap, cur, rfl, hB, hg, hrest⟩
    · have hl : l = [] := List.eq_nil_of_length_eq_zero h0
      rw [hl]
      exact contF_none _ _ _ _
    · have eg : ∀ args w, (callFunc 30 args).run Tryd.prog w = .ok (.enter 30 args) w := enters_of Tryd.func30 (by kernel_rfl) rfl
      have hblk : g < w.heap.size := lt_of_getElem? hg
      have hrd := (rd_of_owns enc5 h).grow hblk hg0
      have hcc := AnyQ.slices_ContainsFunc Tryd.contF 5 Tryd.isAgg38 Tryd.sizeOf38 encTb enc5 (fun x => decide (x.file = f)) 30 #[.pointer (some ⟨w.heap.size, 0, none⟩)] eg g 0 l.length cap l (w.alloc (.cells #[.int .i64 f] 3))
        (has_clo f w.heap.size _ (by simp) hbx) (Nat.le_refl _) (by omega) (by simp; omega) (fun j hj i u hu => hrd j l[j]! (by rw [getElem!_pos l j hj]; simp [hj]) i u hu)
      rw [List.take_length] at hcc
      exact hcc
  have Hcon := Lib.hid hcon
  have Hg0 := Lib.hid hg0
  obtain ⟨va, vn, vc, rfl⟩ : ∃ a n c, v = .slice a n c := by
    rcases h.2 with ⟨rfl, h0⟩ | ⟨g, cap, cur, rfl, _⟩ <;> exact ⟨_, _, _, rfl⟩
  generalize hasF l f = r at *
  clear h hcon hg0 hbx
  go_enter Tryd.func19, Tryd.ntmps19
  go_wp2_with fail
  (with_reducible refine Hcon.out.mono ?_)
  rintro e w' ⟨rfl, hg⟩
  go_wp2
  go_ret
  exact ⟨rfl, Hg0.out.trans hg⟩

theorem Tryd.infoT : (Tryd.prog.info? 38).map (fun i => (i.zero, i.size, i.bytes)) = some (some (.agg #[.int .i64 0, .int .i64 0, .string ByteArray.empty, .string ByteArray.empty, .int .i64 0]), 5, 56) := by kernel_rfl

/-- slices.Clone of a version's tables: a row that is the call's own. -/
theorem clone_any {B : Nat} {w : World} {v : Value} {l : List Tb} (h : Own B w v l) (hlen : l.length < 1000000000) :
    Calls Tryd.prog 18 #[v] w fun e w' => ∃ v', e = .returned v' ∧ Own w.heap.size w' v' l ∧ Grow w w' := by
  rcases h.2 with ⟨rfl, h0⟩ | ⟨g, cap, cur, rfl, hB, hg, hrest⟩
  · have hl : l = [] := List.eq_nil_of_length_eq_zero h0
    subst hl
    have hc : Calls Tryd.prog 18 #[.slice none 0 0] w _ := AnyE.slices_Clone_nil Tryd.cloneT 0 0 w
    exact hc.mono fun e w' ⟨he, hw⟩ => ⟨_, he, World.ownsRow_nil _ _ _ _, by rw [hw]; exact Grow.refl _⟩
  · obtain ⟨i0, hi0, hz0, hz1, hz2⟩ := info_parts Tryd.infoT
    have hc : Calls Tryd.prog 18 #[.slice (some ⟨g, 0, none⟩) l.length cap] w _ := AnyE.slices_Clone Tryd.cloneT i0 _ 5 56 hi0 hz0 hz1 hz2 rfl (by decide) Tryd.sizeOf38 g 0 l.length cap (tcells l) w h.1 (by unfold maxLen; omega) (by omega)
      (fun j u hu => by
        have hj : j < l.length * 5 := by have := (List.getElem?_eq_some_iff.1 hu).1; rw [h.1] at this; exact this
        rw [Nat.zero_add, h.cellAt j hj, hu]) (tcellsOne l)
    exact hc.mono fun e w' ⟨v', he, ho, _, hb⟩ => ⟨v', he, ho, hb⟩
end Go.Proofs.YtpdbjmodgiokmaaDoor
