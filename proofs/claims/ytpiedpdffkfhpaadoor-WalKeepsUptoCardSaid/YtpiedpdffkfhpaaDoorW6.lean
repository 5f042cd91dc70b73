/- Merged out of KN, KA, KB, KC, FK: helpers. -/
import Derived.Test.YtpiedpdffkfhpaaDoorW4
import Derived.Test.YtpiedpdffkfhpaaDoorLayQ
import Derived.Lib.LaidTab
import Derived.Lib.ItoaMem
import Derived.Test.YtpiedpdffkfhpaaDoorW5
import Derived.Test.YtpiedpdffkfhpaaDoorRows
/- Numbers are told in digits where the laid table of powers lies. -/
namespace Go.Proofs.YtpiedpdffkfhpaaDoor
open Go.RowKit Go.Gl Go.Wal Go.Sort

theorem grow_below (w : World) (k : Nat) (os : Array Obj) : Grow w (Go.Sort.grow (w.drewN k) os) := by
  refine ⟨rfl, rfl, rfl, ?_, fun b hb => ?_⟩
  · show w.heap.size ≤ (w.heap ++ os).size
    simp
  · show (w.heap ++ os)[b]? = w.heap[b]?
    exact Array.getElem?_append_left hb

theorem nums_laid {W : World} (hT : Lib.TabIs Tryd.prog W "internal/strconv.uint64pow10" .u64 Lib.pow10Tab) : Nums 1000 W.heap.size W := fun n hn W' hW => by
  have hT' : Lib.TabIs Tryd.prog W' "internal/strconv.uint64pow10" .u64 Lib.pow10Tab := by
    unfold Lib.TabIs World.var? at hT ⊢
    cases hg : Tryd.prog.globalNamed "internal/strconv.uint64pow10" with
    | none => rw [hg] at hT; cases hT
    | some g =>
      rw [hg] at hT
      simp only [Option.bind_some] at hT ⊢
      cases hb : W.heap[g]? with
      | none => rw [hb] at hT; cases hT
      | some o => rw [hW g (lt_of_getElem? hb)]; exact hT
  refine (Any.strconv_Itoa Tryd.itoaM (n : Int) (by omega) (by omega) W' hT').mono ?_
  rintro e w' ⟨rfl, k, os, rfl⟩
  exact ⟨by rw [Lib.itoa_nonneg], grow_below W' k os⟩
end Go.Proofs.YtpiedpdffkfhpaaDoor

/- Acts that came in, opened, with what they weigh. -/
namespace Go.Proofs.YtpiedpdffkfhpaaDoor
open Go.ChangeShapes Go.WideShapes Go.ChangeAt Go.RowKit Go.Gl Go.Wal

/-- An act: what it does, its payloads, how many picks. -/
structure ActD where
  op : Int
  L : List (List UInt8)
  pl : Nat

def ActD.weight (a : ActD) : Nat := a.L.length + a.pl + (a.L.map List.length).sum
def weights (xs : List ActD) : Nat := (xs.map ActD.weight).sum

def ActAt (w : World) (b o : Nat) (a : ActD) : Prop :=
  ∃ (lv : Value) (px : Option Addr) (pc : Nat), w.cell? ⟨b, o, none⟩ = some (.int .i64 a.op) ∧ w.cell? ⟨b, o + 2, none⟩ = some lv ∧ w.cell? ⟨b, o + 3, none⟩ = some (.slice px a.pl pc) ∧ Rv w lv a.L

/-- The value reads as a row of acts. -/
def ActsAt (w : World) (v : Value) (xs : List ActD) : Prop :=
  ∃ a c, v = .slice a xs.length c ∧ xs.length ≤ maxLen ∧ (xs = [] ∨ ∃ b o, a = some ⟨b, o, none⟩ ∧ b < w.heap.size ∧ ∀ (i : Nat) (x : ActD), xs[i]? = some x → ActAt w b (o + i * 4) x)

theorem ActAt.grow {w w' : World} {b o : Nat} {a : ActD} (h : ActAt w b o a) (hb : b < w.heap.size) (hg : Grow w w') : ActAt w' b o a := by
  obtain ⟨lv, px, pc, h0, h2, h3, h4⟩ := h
  exact ⟨lv, px, pc, by rw [Grow.cells _ _ _ hg hb]; exact h0, by rw [Grow.cells _ _ _ hg hb]; exact h2, by rw [Grow.cells _ _ _ hg hb]; exact h3, h4.grow hg⟩

theorem ActsAt.grow {w w' : World} {v : Value} {xs : List ActD} (h : ActsAt w v xs) (hg : Grow w w') : ActsAt w' v xs := by
  obtain ⟨a, c, hv, hm, h⟩ := h
  refine ⟨a, c, hv, hm, ?_⟩
  rcases h with h | ⟨b, o, ha, hb, hc⟩
  · exact .inl h
  · exact .inr ⟨b, o, ha, Nat.lt_of_lt_of_le hb hg.size, fun i x hx => (hc i x hx).grow hb hg⟩

theorem ActsAt.slice {w : World} {v : Value} {xs : List ActD} (h : ActsAt w v xs) : ∃ a c, v = .slice a xs.length c := by
  obtain ⟨a, c, h, _⟩ := h; exact ⟨a, c, h⟩

theorem ActsAt.at {w : World} {a : Option Addr} {n c i : Nat} {xs : List ActD} (h : ActsAt w (.slice a n c) xs) (hi : i < xs.length) : ∃ b o, a = some ⟨b, o, none⟩ ∧ b < w.heap.size ∧ ActAt w b (o + i * 4) xs[i] := by
  obtain ⟨a', c', he, hm, h⟩ := h
  cases he
  rcases h with rfl | ⟨b, o, rfl, hb, hc⟩
  · cases hi
  · exact ⟨b, o, rfl, hb, hc i xs[i] (by simp [hi])⟩

section
variable {H : Type} {enc : TypeId × Value → H} {w : World} {base : Nat} {spare : Nat → Bool} {held : Bool}

theorem bulk_one (d : DataW H) : 1 ≤ Rows.uptoBulk d := by
  cases d with
  | lit l => cases l <;> simp [Rows.uptoBulk]
  | nil => simp [Rows.uptoBulk]
  | ptr d => simp [Rows.uptoBulk]
  | slice elems spare => simp [Rows.uptoBulk]
  | agg parts => simp [Rows.uptoBulk]
  | iface t d => simp [Rows.uptoBulk]
  | map entries => simp [Rows.uptoBulk]
  | held h => simp [Rows.uptoBulk]

theorem bulk_length : ∀ l : List (DataW H), l.length ≤ Rows.uptoBulkAll l
  | [] => Nat.zero_le _
  | x :: r => by have := bulk_one x; have := bulk_length r; simp only [Rows.uptoBulkAll, List.length_cons]; omega

theorem bulk_map (D : Nat → DataW H) (g : Nat → Nat) : ∀ I : List Nat, (∀ i ∈ I, g i ≤ Rows.uptoBulk (D i)) → (I.map g).sum ≤ Rows.uptoBulkAll (I.map D)
  | [], _ => Nat.zero_le _
  | i :: I, h => by
    have h1 := h i (List.mem_cons_self ..)
    have h2 := bulk_map D g I (fun j hj => h j (List.mem_cons_of_mem _ hj))
    simp only [List.map_cons, List.sum_cons, Rows.uptoBulkAll]
    omega

theorem open_b2 {v : Value} {fuel : Nat} {x : DataW H × List MemPlace} (h : DataW.trod enc Tryd.prog w base spare held fuel 23 [v] = some x) : ∃ l : List UInt8, Bv w v l ∧ l.length + 1 ≤ Rows.uptoBulk x.1 := by
  obtain ⟨l, hl⟩ := open_b h
  refine ⟨l, hl, ?_⟩
  rcases open_ints Tryd.underlying23 Tryd.underlying5 (by kernel_rfl) h with ⟨hcs, hx⟩ | ⟨a, n, c, zs, hcs, _, hn, hm, hz, hx, _, _⟩
  · simp only [List.cons.injEq, and_true] at hcs
    obtain ⟨a', c', hv, _⟩ := hl
    rw [hcs] at hv
    simp only [Value.slice.injEq] at hv
    have := bulk_one x.1
    omega
  · simp only [List.cons.injEq, and_true] at hcs
    obtain ⟨a', c', hv, _⟩ := hl
    rw [hcs] at hv
    simp only [Value.slice.injEq] at hv
    have hzl : n ≤ zs.length := by rw [hz]; split <;> omega
    rw [hx]
    have h1 := bulk_length (H := H) (lits .u8 (zs.take n))
    have h2 : (lits (H := H) .u8 (zs.take n)).length = n := by simp [lits]; omega
    simp only [Rows.uptoBulk]
    omega

theorem open_rows2 {v : Value} {fuel : Nat} {x : DataW H × List MemPlace} (h : DataW.trod enc Tryd.prog w base spare held fuel 22 [v] = some x) : ∃ ps, Rv w v ps ∧ ps.length + (ps.map List.length).sum + 1 ≤ Rows.uptoBulk x.1 := by
  have k1 : Tryd.prog.cellsOf 23 = 1 := by kernel_rfl
  rcases Go.Deep.open_slice Tryd.underlying22 h with ⟨hcs, hx⟩ | ⟨a, len, cap, m, n, D, Pl, hcs, _, hl, hm, hmm, hx, hel⟩
  · simp only [List.cons.injEq, and_true] at hcs
    subst hcs
    exact ⟨[], ⟨none, 0, rfl, .inl rfl⟩, bulk_one _⟩
  · simp only [List.cons.injEq, and_true] at hcs
    subst hcs
    rw [k1] at hel
    have hlm : len ≤ m := by rw [hmm]; split <;> omega
    by_cases hl0 : len = 0
    · subst hl0
      exact ⟨[], ⟨some a, cap, rfl, .inl rfl⟩, bulk_one _⟩
    · obtain ⟨cs0, hc0, _⟩ := hel 0 (by omega)
      obtain ⟨b, o, sp⟩ := a
      obtain ⟨v0, _, hz0⟩ := opened1 hc0
      have hz : w.cell? ⟨b, o, sp⟩ = some v0 := by simpa [Addr.add] using hz0
      have hsp := spot_of_cell hz
      simp only at hsp
      subst hsp
      have hlt := World.block_lt_of_cell? w _ hz
      have hall : ∀ i, i < len → ∃ p : List UInt8, (∃ pv, w.cell? ⟨b, o + i, none⟩ = some pv ∧ Bv w pv p) ∧ p.length + 1 ≤ Rows.uptoBulk (D i) := fun i hi => by
        obtain ⟨cs', h1, h2⟩ := hel i (by omega)
        rw [Addr.add_lit, Nat.mul_one] at h1
        obtain ⟨pv, rfl, h3⟩ := opened1 h1
        obtain ⟨p, hp, hb⟩ := open_b2 h2
        exact ⟨p, ⟨pv, h3, hp⟩, hb⟩
      obtain ⟨f, hf⟩ := Go.Deep.choose_lt hall
      refine ⟨(List.range len).map f, ⟨some ⟨b, o, none⟩, cap, by simp, .inr ⟨b, o, rfl, hlt, fun i y hy => ?_⟩⟩, ?_⟩
      · simp only [List.getElem?_map, Option.map_eq_some_iff] at hy
        obtain ⟨j, hj, rfl⟩ := hy
        have hil : i < len := by have := (List.getElem?_eq_some_iff.1 hj).1; simpa using this
        rw [List.getElem?_range hil] at hj
        cases hj
        exact (hf i hil).1
      · have h1 := bulk_map D (fun i => (f i).length + 1) (List.range len) (fun i hi => (hf i (by simpa using hi)).2)
        have h2 : ((List.range len).map fun i => (f i).length + 1).sum = ((List.range len).map f).length + (((List.range len).map f).map List.length).sum := by
          rw [List.map_map]
          clear h1 hf hall hel hmm hx
          induction (List.range len) with
          | nil => rfl
          | cons i I ih => simp only [List.map_cons, List.sum_cons, List.length_cons, Function.comp] at ih ⊢; omega
        rw [hx]
        simp only [Rows.uptoBulk]
        omega

theorem open_plen {v : Value} {fuel : Nat} {x : DataW H × List MemPlace} (h : DataW.trod enc Tryd.prog w base spare held fuel 32 [v] = some x) : ∃ a n c, v = .slice a n c ∧ n + 1 ≤ Rows.uptoBulk x.1 := by
  rcases open_ints Tryd.underlying32 Tryd.underlying3 (by kernel_rfl) h with ⟨hcs, hx⟩ | ⟨a, n, c, zs, hcs, _, hn, hm, hz, hx, _, _⟩
  · simp only [List.cons.injEq, and_true] at hcs
    subst hcs
    exact ⟨none, 0, 0, rfl, bulk_one _⟩
  · simp only [List.cons.injEq, and_true] at hcs
    subst hcs
    have hzl : n ≤ zs.length := by rw [hz]; split <;> omega
    refine ⟨some a, n, c, rfl, ?_⟩
    rw [hx]
    have h1 := bulk_length (H := H) (lits .i64 (zs.take n))
    have h2 : (lits (H := H) .i64 (zs.take n)).length = n := by simp [lits]; omega
    simp only [Rows.uptoBulk]
    omega

theorem opened4 {a : Addr} {cs : List Value} (h : w.cells? base a 4 = some cs) : ∃ v0 v1 v2 v3, cs = [v0, v1, v2, v3] ∧ w.cell? a = some v0 ∧ w.cell? (a.add 1) = some v1 ∧ w.cell? (a.add 2) = some v2 ∧ w.cell? (a.add 3) = some v3 := by
  unfold World.cells? at h
  split at h
  · have e : List.range 4 = [0, 1, 2, 3] := rfl
    rw [e] at h
    simp only [List.mapM_cons, List.mapM_nil, Option.bind_eq_bind, Option.bind_eq_some_iff, Option.pure_def, Option.some.injEq] at h
    obtain ⟨v0, h0, _, ⟨v1, h1, _, ⟨v2, h2, _, ⟨v3, h3, _, rfl, rfl⟩, rfl⟩, rfl⟩, rfl⟩ := h
    exact ⟨v0, v1, v2, v3, rfl, by simpa [Addr.add] using h0, h1, h2, h3⟩
  · cases h

theorem open_act {b o : Nat} {cs : List Value} {n : Nat} {x : DataW H × List MemPlace} (hc : w.cells? base ⟨b, o, none⟩ 4 = some cs) (h : DataW.trod enc Tryd.prog w base spare held n 43 cs = some x) : ∃ a : ActD, ActAt w b o a ∧ a.weight + 1 ≤ Rows.uptoBulk x.1 := by
  obtain ⟨xs, m, _, hx, hl, hlen, hf⟩ := DataW.trod_struct Tryd.underlying43 h
  obtain ⟨v0, v1, v2, v3, rfl, c0, c1, c2, c3⟩ := opened4 hc
  rw [Addr.add_lit] at c1 c2 c3
  have k3 : Tryd.prog.cellsOf 3 = 1 := by kernel_rfl
  have kR : Tryd.prog.cellsOf 22 = 1 := by kernel_rfl
  have kI : Tryd.prog.cellsOf 32 = 1 := by kernel_rfl
  match xs, hlen with
  | [y0, y1, y2, y3], _ =>
    have f0 : DataW.trod enc Tryd.prog w base spare held m 3 [v0] = some y0 := by have h7 := hf 0 _ rfl; simpa [k3] using h7
    have f2 : DataW.trod enc Tryd.prog w base spare held m 22 [v2] = some y2 := by have h7 := hf 2 _ rfl; simpa [k3, kR] using h7
    have f3 : DataW.trod enc Tryd.prog w base spare held m 32 [v3] = some y3 := by have h7 := hf 3 _ rfl; simpa [k3, kR, kI] using h7
    obtain ⟨n0, e0⟩ := open_i f0
    obtain ⟨ps, hps, hb2⟩ := open_rows2 f2
    obtain ⟨px, pl, pc, hp3, hb3⟩ := open_plen f3
    subst e0 hp3
    refine ⟨⟨n0, ps, pl⟩, ⟨v2, px, pc, c0, c2, c3, hps⟩, ?_⟩
    rw [hx]
    have b0 := bulk_one y0.1
    simp only [Rows.uptoBulk, Rows.uptoBulkAll, List.map_cons, List.map_nil, ActD.weight]
    omega

theorem open_acts {v : Value} {fuel : Nat} {x : DataW H × List MemPlace} (h : DataW.trod enc Tryd.prog w base spare held fuel 40 [v] = some x) : ∃ xs, ActsAt w v xs ∧ weights xs ≤ Rows.uptoBulk x.1 := by
  have k4 : Tryd.prog.cellsOf 43 = 4 := by kernel_rfl
  rcases Go.Deep.open_slice Tryd.underlying40 h with ⟨hcs, hx⟩ | ⟨a, len, cap, m, n, D, Pl, hcs, _, hl, hm, hmm, hx, hel⟩
  · simp only [List.cons.injEq, and_true] at hcs
    subst hcs
    exact ⟨[], ⟨none, 0, rfl, Nat.zero_le _, .inl rfl⟩, Nat.zero_le _⟩
  · simp only [List.cons.injEq, and_true] at hcs
    subst hcs
    rw [k4] at hel
    have hlm : len ≤ m := by rw [hmm]; split <;> omega
    by_cases hl0 : len = 0
    · subst hl0
      exact ⟨[], ⟨some a, cap, rfl, Nat.zero_le _, .inl rfl⟩, Nat.zero_le _⟩
    · obtain ⟨cs0, hc0, _⟩ := hel 0 (by omega)
      obtain ⟨b, o, sp⟩ := a
      obtain ⟨v0, _, _, _, _, hz0, _⟩ := opened4 hc0
      have hz : w.cell? ⟨b, o, sp⟩ = some v0 := by simpa [Addr.add] using hz0
      have hsp := spot_of_cell hz
      simp only at hsp
      subst hsp
      have hlt := World.block_lt_of_cell? w _ hz
      have hall : ∀ i, i < len → ∃ t : ActD, ActAt w b (o + i * 4) t ∧ t.weight + 1 ≤ Rows.uptoBulk (D i) := fun i hi => by
        obtain ⟨cs', h1, h2⟩ := hel i (by omega)
        rw [Addr.add_lit] at h1
        exact open_act h1 h2
      have : Inhabited ActD := ⟨⟨0, [], 0⟩⟩
      obtain ⟨f, hf⟩ := Go.Deep.choose_lt hall
      refine ⟨(List.range len).map f, ⟨some ⟨b, o, none⟩, cap, by simp, by simp; omega, .inr ⟨b, o, rfl, hlt, fun i y hy => ?_⟩⟩, ?_⟩
      · simp only [List.getElem?_map, Option.map_eq_some_iff] at hy
        obtain ⟨j, hj, rfl⟩ := hy
        have hil : i < len := by have := (List.getElem?_eq_some_iff.1 hj).1; simpa using this
        rw [List.getElem?_range hil] at hj
        cases hj
        exact (hf i hil).1
      · have h1 := bulk_map D (fun i => (f i).weight) (List.range len) (fun i hi => by have := (hf i (by simpa using hi)).2; omega)
        rw [hx]
        unfold weights
        rw [List.map_map]
        simp only [Rows.uptoBulk]
        have h2 : ((List.range len).map (ActD.weight ∘ f)).sum = ((List.range len).map fun i => (f i).weight).sum := rfl
        omega
end
end Go.Proofs.YtpiedpdffkfhpaaDoor

/- glacierlaw4.few: the walk. -/
namespace Go.Proofs.YtpiedpdffkfhpaaDoor
open Go.RowKit Go.Gl Go.Wal Go.Sort

def fewB (xs : List ActD) : Bool := decide (xs.length ≤ 300) && decide (weights xs ≤ 65536)

theorem weights_snoc {xs : List ActD} {i : Nat} (h : i < xs.length) : weights (xs.take (i + 1)) = weights (xs.take i) + xs[i].weight := by
  unfold weights
  rw [List.take_succ_eq_append_getElem h]
  simp only [List.map_append, List.sum_append, List.map_cons, List.map_nil, List.sum_cons, List.sum_nil, Nat.add_zero]

theorem weights_take (xs : List ActD) (i : Nat) : weights (xs.take i) ≤ weights xs := by
  have : weights xs = weights (xs.take i) + weights (xs.drop i) := by
    unfold weights
    rw [← List.sum_append, ← List.map_append, List.take_append_drop]
  omega

theorem lens_snoc {L : List (List UInt8)} {k : Nat} (h : k < L.length) : ((L.take (k + 1)).map List.length).sum = ((L.take k).map List.length).sum + L[k].length := by
  rw [List.take_succ_eq_append_getElem h]
  simp only [List.map_append, List.sum_append, List.map_cons, List.map_nil, List.sum_cons, List.sum_nil, Nat.add_zero]

theorem lens_take (L : List (List UInt8)) (k : Nat) : ((L.take k).map List.length).sum ≤ (L.map List.length).sum := by
  have : (L.map List.length).sum = ((L.take k).map List.length).sum + ((L.drop k).map List.length).sum := by
    rw [← List.sum_append, ← List.map_append, List.take_append_drop]
  omega

set_option maxRecDepth 100000 in
set_option maxHeartbeats 4000000 in
theorem few_any {w : World} {v : Value} {xs : List ActD} (h : ActsAt w v xs) (hw : weights xs ≤ 1048576) :
    Calls Tryd.prog 14 #[v] w fun e w' => e = .returned (.bool (fewB xs)) ∧ Grow w w' := by
  obtain ⟨xa, xc, rfl⟩ := h.slice
  have hxm : xs.length ≤ maxLen := by obtain ⟨_, _, he, hm, _⟩ := h; exact hm
  unfold maxLen at hxm
  have H := Lib.hid h
  clear h
  go_enter Tryd.func14, Tryd.ntmps14
  go_wp2_with fail
  go_loopw [3, 4] (fun nv iv wr => ∃ (i s : Nat), iv = .int .i64 (i : Int) ∧ nv = .int .i64 (s : Int) ∧ s = weights (xs.take i) ∧ i ≤ xs.length ∧ Grow w wr) (fun _ iv _ => xs.length - (intOf iv).toNat)
  case atStart => exact ⟨0, 0, rfl, rfl, rfl, Nat.zero_le _, Grow.refl _⟩
  case round =>
    obtain ⟨i, s, rfl, rfl, hs, hi, hg⟩ := hrel
    have hi0 : (0 : Int) ≤ (i : Int) := by omega
    by_cases hlt : i < xs.length
    · have hwi : IntKind.i64.wrap ((i : Int) + 1) = (i : Int) + 1 := IntWalk.i64_in _ (by omega)
      have hi1 : (i : Int) < (xs.length : Int) := by omega
      obtain ⟨b, o, rfl, lb, lv, px, pc, c0, c2, c3, hL⟩ := (H.out.grow hg).at hlt
      have hsn := weights_snoc hlt
      have hst := weights_take xs (i + 1)
      generalize xs[i] = x at *
      have hwx : x.weight = x.L.length + x.pl + (x.L.map List.length).sum := rfl
      have hw1 : IntKind.i64.wrap ((s : Int) + (x.L.length : Int)) = (s : Int) + (x.L.length : Int) := IntWalk.i64_in _ (by omega)
      have hw2 : IntKind.i64.wrap ((s : Int) + (x.L.length : Int) + (x.pl : Int)) = (s : Int) + (x.L.length : Int) + (x.pl : Int) := IntWalk.i64_in _ (by omega)
      obtain ⟨ta, tc, rfl⟩ := hL.slice
      have hcl := Grow.cells (w := wr)
      have HL := Lib.hid hL
      have Hs := Lib.hid (And.intro hs (And.intro hsn hst))
      have Hg := Lib.hid hg
      have Hwx := Lib.hid hwx
      clear hL hs hsn hst hg hwx c0
      go_wp2_with fail
      refine wp_region_pi (fun W => Below wr.heap.size wr W) [(0, false), (1, false), (2, false), (3, false), (4, false), (5, false), (6, false), (7, false), (8, false), (9, false), (10, false), (11, false), (12, false), (13, false), (14, false), (15, false)] (by kernel_rfl) (by kernel_rfl) (fun c a d v w h => by cases d <;> exact h) (Grow.drew _) ?_
      simp only [arrange, nth]
      repeat (first | (refine wpPi_quiet (v := ?_) (by rfl) (fun W hW => ?_) ?_; rotate_left; (obtain hW := hW; go_simp; with_reducible rfl); simp only [Act.put, List.setIfInBounds_toArray, List.set_cons_zero, List.set_cons_succ]) | (refine wpPi_off (by rfl) ?_; simp only [Act.put, List.setIfInBounds_toArray, List.set_cons_zero, List.set_cons_succ]))
      refine wpPi_nil ?_
      clear hcl
      go_wp2_with fail
      go_loopw [3, 5] (fun nv kv wr2 => ∃ (k t : Nat), kv = .int .i64 (k : Int) ∧ nv = .int .i64 (t : Int) ∧ t = s + x.L.length + x.pl + ((x.L.take k).map List.length).sum ∧ k ≤ x.L.length ∧ wr2 = wr.drew) (fun _ kv _ => x.L.length - (intOf kv).toNat)
      case atStart => exact ⟨0, s + x.L.length + x.pl, rfl, by simp, by simp, Nat.zero_le _, rfl⟩
      case round =>
        obtain ⟨k, t, rfl, rfl, ht, hk, hwr⟩ := hrel
        subst hwr
        have hk0 : (0 : Int) ≤ (k : Int) := by omega
        by_cases hklt : k < x.L.length
        · have hk1 : (k : Int) < (x.L.length : Int) := by omega
          have hwk : IntKind.i64.wrap ((k : Int) + 1) = (k : Int) + 1 := IntWalk.i64_in _ (by have := Hs.out; have := Hwx.out; omega)
          obtain ⟨b2, o2, pa, pc2, rfl, lb2, d2, _⟩ := HL.out.at hklt
          have hln := lens_snoc hklt
          have hlt2 := lens_take x.L (k + 1)
          generalize x.L[k] = y at *
          have hwt : IntKind.i64.wrap ((t : Int) + (y.length : Int)) = (t : Int) + (y.length : Int) := IntWalk.i64_in _ (by have := Hs.out; have := Hwx.out; omega)
          have Ht := Lib.hid (And.intro ht hln)
          clear ht hln hlt2
          go_wp2
          go_roundw
          case rel => exact ⟨k + 1, t + y.length, by simp, by simp, by have := Ht.out; omega, hklt, by first | rfl | trivial⟩
          case measure => simp [intOf]; omega
        · have hk1 : (x.L.length : Int) ≤ (k : Int) := by omega
          have hke : k = x.L.length := by omega
          have ht2 : t = s + x.weight := by
            rw [hke, List.take_length] at ht
            have := Hwx.out; omega
          have Ht := Lib.hid ht2
          clear ht ht2 hke
          go_wp2
          go_roundw
          case rel => exact ⟨i + 1, t, by simp, rfl, by have := Ht.out; have := Hs.out; omega, hlt, Hg.out.trans (Grow.drew wr)⟩
          case measure => simp [intOf]; omega
    · have hie : i = xs.length := by omega
      have hsw : s = weights xs := by rw [hs, hie, List.take_length]
      have hi1 : (xs.length : Int) ≤ (i : Int) := by omega
      have Hg := Lib.hid hg
      clear hs hg hie
      by_cases h3 : xs.length ≤ 300
      · have h31 : (xs.length : Int) ≤ 300 := by omega
        by_cases h6 : s ≤ 65536
        · have h61 : (s : Int) ≤ 65536 := by omega
          have Hf : Hid (fewB xs = true) := Lib.hid (by unfold fewB; rw [← hsw]; simp [h3, h6])
          clear hsw
          go_wp2
          go_ret
          exact ⟨by rw [Hf.out]; rfl, Hg.out⟩
        · have h61 : (65536 : Int) < (s : Int) := by omega
          have hdf : decide ((s : Int) ≤ 65536) = false := by simp; omega
          have Hf : Hid (fewB xs = false) := Lib.hid (by unfold fewB; rw [← hsw]; simp; omega)
          clear hsw
          go_wp2
          go_ret
          exact ⟨by rw [Hf.out]; first | rfl | (rw [hdf]; rfl), Hg.out⟩
      · have h31 : (300 : Int) < (xs.length : Int) := by omega
        have Hf : Hid (fewB xs = false) := Lib.hid (by unfold fewB; simp; omega)
        clear hsw
        go_wp2
        go_ret
        exact ⟨by rw [Hf.out]; rfl, Hg.out⟩
end Go.Proofs.YtpiedpdffkfhpaaDoor

/- For the law WalKeeps: plain facts; the row of all payloads. -/
namespace Go.Proofs.YtpiedpdffkfhpaaDoor
open Go.RowKit Go.Gl Go.Wal Go.Sort

theorem Nums.base {N B B' : Nat} {w : World} (h : Nums N B w) (hB : B ≤ B') : Nums N B' w := fun n hn W hW => h n hn W (fun b hb => hW b (by omega))

theorem cutL_append (picks : List Int) : ∀ (A B : Sg) (i : Nat), cutL picks i (A ++ B) = cutL picks i A ++ cutL picks (i + A.length) B
  | [], B, i => rfl
  | q :: A, B, i => by rw [List.cons_append, cutL, cutL_append picks A, cutL, List.cons_append, List.length_cons, show i + 1 + A.length = i + (A.length + 1) by omega]

theorem cutL_whole (picks : List Int) : ∀ (L : Sg) (i : Nat), (∀ q ∈ L, q.2 = q.1.length) → cutL picks i L = L
  | [], _, _ => rfl
  | q :: L, i, h => by
    have h1 := h q (List.mem_cons_self ..)
    have h2 := keptD_le picks i (Nat.le_of_eq h1)
    have h3 : keptD picks i q.1.length q.2 = q.1.length := by omega
    rw [cutL, h3, cutL_whole picks L _ (fun g hg => h g (List.mem_cons_of_mem _ hg)), List.take_length]
    rw [← h1]

theorem isN_from (c : Grp) (k : Nat) : ∀ (d m : Nat), m + d = c.length → (framesD crcTab (c.take m)).length ≤ k → ∃ n, m ≤ n ∧ isN c k n
  | 0, m, h, hk => ⟨m, Nat.le_refl _, by omega, hk, fun hlt => by omega⟩
  | d + 1, m, h, hk => by
    by_cases h1 : (framesD crcTab (c.take (m + 1))).length ≤ k
    · obtain ⟨n, hn, hi⟩ := isN_from c k d (m + 1) (by omega) h1
      exact ⟨n, by omega, hi⟩
    · exact ⟨m, Nat.le_refl _, by omega, hk, fun _ => by omega⟩

theorem synP_segs (G : List Grp) : synP (G.map segOf) = G.map segOf := by
  unfold synP
  rw [List.map_map]
  rfl

theorem take_len_le (T : List Nat) (c : Grp) (t : Nat) : (framesD T (c.take t)).length ≤ (framesD T c).length := by
  have : framesD T c = framesD T (c.take t) ++ framesD T (c.drop t) := by rw [← framesD_append, List.take_append_drop]
  rw [this, List.length_append]; omega

/-- A crash, then Open. -/
theorem crash_open (picks : List Int) (G : List Grp) (c : Grp) (t : Nat) (ht : t ≤ c.length) (h6 : ∀ g ∈ G ++ [c], ∀ p ∈ g, p.length ≤ 67108864) :
    ∃ n, t ≤ n ∧ n ≤ c.length ∧ (openL crcTab (cutL picks 0 (G.map segOf ++ [(framesD crcTab c, (framesD crcTab (c.take t)).length)]))).1 = (G ++ [c.take n]).flatten ∧
      openS crcTab (cutL picks 0 (G.map segOf ++ [(framesD crcTab c, (framesD crcTab (c.take t)).length)])) = (G ++ [c.take n]).map segOf := by
  have hk := keptD_le picks (0 + (G.map segOf).length) (take_len_le crcTab c t)
  rw [cutL_append, cutL_whole picks _ _ (segOf_synced G), cutL]
  generalize keptD picks (0 + (G.map segOf).length) (framesD crcTab c).length (framesD crcTab (c.take t)).length = k at hk
  obtain ⟨n, hn, hi⟩ := isN_from c k (c.length - t) t (by omega) hk.1
  have hw := whole_segs (G := G) (fun g hg => h6 g (by simp [hg]))
  have hc := openL_cut (fun p hp => h6 c (by simp) p hp) hi k
  have e := openL_append hw [((framesD crcTab c).take k, k)]
  rw [rows_segs (fun g hg => h6 g (by simp [hg])), synP_segs, hc] at e
  refine ⟨n, hn, hi.1, ?_, ?_⟩
  · rw [cutL, e]; simp
  · unfold openS
    rw [cutL, if_neg (by simp), e, List.map_append]
    rfl

theorem frames_sum : ∀ ps : Grp, (framesD crcTab ps).length ≤ (ps.map List.length).sum + 14 * ps.length
  | [] => Nat.le_refl _
  | p :: ps => by
    have h1 := frames_sum ps
    have h2 := frame_len crcTab p
    have h3 := numD_le p.length
    rw [show framesD crcTab (p :: ps) = frameD crcTab p ++ framesD crcTab ps from rfl, List.length_append, List.map_cons, List.sum_cons, List.length_cons]
    omega

theorem len_le_sum {ps : Grp} {p : List UInt8} (h : p ∈ ps) : p.length ≤ (ps.map List.length).sum := by
  induction ps with
  | nil => cases h
  | cons q ps ih =>
    rw [List.map_cons, List.sum_cons]
    rcases List.mem_cons.1 h with rfl | h
    · omega
    · have := ih h; omega

/-- A row of payloads, its slices those that came in. -/
def AllAt (w0 w : World) (v : Value) (ps : Grp) : Prop :=
  ∃ vals, Row1 23 w0.heap.size w v vals ∧ vals.length = ps.length ∧ ∀ (i : Nat) (u : Value) (p : List UInt8), vals[i]? = some u → ps[i]? = some p → Bv w0 u p

theorem allAt_nil (w0 w : World) : AllAt w0 w (.slice none 0 0) [] := ⟨[], row1_nil _ _ _, rfl, fun i u p h => by simp at h⟩
theorem AllAt.slice {w0 w : World} {v : Value} {ps : Grp} (h : AllAt w0 w v ps) : ∃ a c, v = .slice a ps.length c := by
  obtain ⟨vals, h1, h2, _⟩ := h
  obtain ⟨a, c, h3⟩ := h1.slice
  exact ⟨a, c, by rw [h3, h2]⟩
theorem AllAt.cap {w0 w : World} {v : Value} {ps : Grp} (h : AllAt w0 w v ps) {x : Option Addr} {n c : Nat} (hv : v = .slice x n c) : n ≤ c ∧ c ≤ maxLen := by
  obtain ⟨vals, h1, h2, _⟩ := h
  rcases h1 with ⟨rfl, rfl⟩ | ⟨g, cap, cur, rfl, hB, hg, hn, hc, hm, ht⟩
  · cases hv; exact ⟨Nat.le_refl _, Nat.zero_le _⟩
  · cases hv; exact ⟨hn, hm⟩
theorem AllAt.grow {w0 w w' : World} {v : Value} {ps : Grp} (h : AllAt w0 w v ps) (hg : Grow w w') : AllAt w0 w' v ps := by
  obtain ⟨vals, h1, h2, h3⟩ := h
  exact ⟨vals, h1.grow hg, h2, h3⟩

theorem AllAt.lw {w0 w w' : World} {v : Value} {ps : Grp} {Z B : Nat} {p r lb p' : Nat} {V : Vw} {F F' : Nat → Prop} {nm : List UInt8} {last : Int} (h : AllAt w0 w v ps) (hd : Dk Z B w p r V F) (hl : LogAt w lb p' nm last) (hs : Sep (FL F lb) w w' F') : AllAt w0 w' v ps := by
  obtain ⟨vals, h1, h2, h3⟩ := h
  refine ⟨vals, h1.keep (fun g hg => ?_), h2, h3⟩
  obtain ⟨cur, hb⟩ := h1.block hg
  refine hs.out g (lt_of_getElem? hb) (fun hf => ?_)
  rcases hf with hf | rfl
  · exact hd.apart hb (by decide) (by decide) (by decide) hf
  · rw [hl.self] at hb; cases hb

theorem AllAt.ld {w0 w w' : World} {v : Value} {ps : Grp} {Z B : Nat} {p r : Nat} {V : Vw} {F F' : Nat → Prop} (h : AllAt w0 w v ps) (hd : Dk Z B w p r V F) (hs : Sep F w w' F') : AllAt w0 w' v ps := by
  obtain ⟨vals, h1, h2, h3⟩ := h
  refine ⟨vals, h1.keep (fun g hg => ?_), h2, h3⟩
  obtain ⟨cur, hb⟩ := h1.block hg
  exact hs.out g (lt_of_getElem? hb) (hd.apart hb (by decide) (by decide) (by decide))

theorem AllAt.rv {w0 w : World} {v : Value} {ps : Grp} (h : AllAt w0 w v ps) (hb : Grow w0 w) : Rv w v ps := by
  obtain ⟨vals, h1, h2, h3⟩ := h
  rcases h1 with ⟨rfl, rfl⟩ | ⟨g, cap, cur, rfl, hB, hg, hn, hc, hm, ht⟩
  · have : ps = [] := List.eq_nil_of_length_eq_zero h2.symm
    subst this
    exact ⟨none, 0, rfl, .inl rfl⟩
  · have hrow : Row1 23 w0.heap.size w (.slice (some ⟨g, 0, none⟩) vals.length cap) vals := .inr ⟨g, cap, cur, rfl, hB, hg, hn, hc, hm, ht⟩
    refine ⟨some ⟨g, 0, none⟩, cap, by rw [h2], .inr ⟨g, 0, rfl, lt_of_getElem? hg, fun j p hp => ?_⟩⟩
    obtain ⟨u, hu⟩ : ∃ u, vals[j]? = some u := by
      have := (List.getElem?_eq_some_iff.1 hp).1
      exact ⟨vals[j]'(by omega), by simp [show j < vals.length by omega]⟩
    exact ⟨u, by rw [Nat.zero_add]; exact hrow.cells rfl hu, (h3 j u p hu hp).grow hb⟩

theorem Rv.vals {w : World} {a : Option Addr} {n c : Nat} {qs : Grp} (h : Rv w (.slice a n c) qs) : ∃ us : List Value, us.length = qs.length ∧ (∀ (j : Nat) (u : Value), us[j]? = some u → ∃ b o, a = some ⟨b, o, none⟩ ∧ b < w.heap.size ∧ w.cell? ⟨b, o + j, none⟩ = some u) ∧ ∀ (j : Nat) (u : Value) (p : List UInt8), us[j]? = some u → qs[j]? = some p → Bv w u p := by
  obtain ⟨a', c', he, h⟩ := h
  cases he
  rcases h with rfl | ⟨b, o, rfl, hb, hc⟩
  · exact ⟨[], rfl, fun j u h => by simp at h, fun j u p h => by simp at h⟩
  · have hall : ∀ j, j < qs.length → ∃ u : Value, w.cell? ⟨b, o + j, none⟩ = some u ∧ ∀ p, qs[j]? = some p → Bv w u p := fun j hj => by
      obtain ⟨u, h1, h2⟩ := hc j qs[j] (by simp [hj])
      exact ⟨u, h1, fun p hp => by simp [hj] at hp; subst hp; exact h2⟩
    have : Inhabited Value := ⟨.nilIface⟩
    obtain ⟨f, hf⟩ := Go.Deep.choose_lt hall
    refine ⟨(List.range qs.length).map f, by simp, fun j u hu => ?_, fun j u p hu hp => ?_⟩
    · simp only [List.getElem?_map, Option.map_eq_some_iff] at hu
      obtain ⟨i, hi, rfl⟩ := hu
      have hjl : j < qs.length := by have := (List.getElem?_eq_some_iff.1 hi).1; simpa using this
      rw [List.getElem?_range hjl] at hi
      cases hi
      exact ⟨b, o, rfl, hb, (hf j hjl).1⟩
    · simp only [List.getElem?_map, Option.map_eq_some_iff] at hu
      obtain ⟨i, hi, rfl⟩ := hu
      have hjl : j < qs.length := by have := (List.getElem?_eq_some_iff.1 hi).1; simpa using this
      rw [List.getElem?_range hjl] at hi
      cases hi
      exact (hf j hjl).2 p hp

variable {Z : Nat} {w0 w : World} {p r lb a : Nat} {nm : List UInt8} {S : Sg} {F : Nat → Prop}

/-- 'append(all, l...)'. -/
theorem all_append {v x : Value} {ps qs : Grp} (h : Lw Z w0 p r nm lb a S F w) (ho : AllAt w0 w v ps) (hx : Rv w0 x qs) (hlen : ps.length + qs.length ≤ 1000000000000) :
    ∃ v' w', (Builtin.append_ #[22, 22] 22 #[v, x]).run Tryd.prog w = .ok v' w' ∧ AllAt w0 w' v' (ps ++ qs) ∧ Lw Z w0 p r nm lb a S F w' := by
  obtain ⟨xa, xc, rfl⟩ := hx.slice
  obtain ⟨us, hul, huc, hub⟩ := hx.vals
  obtain ⟨vals, h1, h2, h3⟩ := ho
  have hs0 := h.below.size
  have hone : ∀ u ∈ us, u.oneCell' = true := fun u hu => by
    obtain ⟨i, hi, rfl⟩ := List.getElem_of_mem hu
    obtain ⟨ba, bc, hbv⟩ := (hub i us[i] (qs[i]'(by omega)) (by simp [hi]) (by simp [show i < qs.length by omega])).slice
    rw [hbv]; rfl
  have hsrc : Src Tryd.prog 1 22 (.slice xa qs.length xc) qs.length us w := by
    cases xa with
    | none =>
      have hu0 : us = [] := by
        cases us with
        | nil => rfl
        | cons u us => obtain ⟨b, o, hb, _⟩ := huc 0 u rfl; cases hb
      rw [hu0] at hul ⊢
      rw [← hul]
      exact Src.ofNil w Tryd.underlying22 xc
    | some ad =>
      refine Src.ofSlice w Tryd.underlying22 ad qs.length xc us (by rw [hul, Nat.mul_one]) (fun j u hu => ?_) hone
      obtain ⟨b, o, hb, hlt, hc⟩ := huc j u hu
      cases hb
      rw [Addr.add_lit, Grow.cells _ _ _ h.below hlt]
      exact hc
  obtain ⟨v', w', r1, r2, r3, r4⟩ := run_append_row (ty := 22) Tryd.underlying22 Tryd.infoR rfl h1 hsrc hs0 (by rw [h2]; unfold maxLen; omega) (by rw [h2]; omega)
  refine ⟨v', w', r1, ⟨vals ++ us, r2, by simp [h2, hul], fun i u q hu hq => ?_⟩, ⟨h.disk.row r3 (fun g hg => ?_), h.log.row r3 (fun g hg => ?_), below_grown h.below hs0 h1 r3⟩⟩
  · by_cases hi : i < vals.length
    · rw [List.getElem?_append_left hi] at hu
      rw [List.getElem?_append_left (by omega)] at hq
      exact h3 i u q hu hq
    · rw [List.getElem?_append_right (by omega)] at hu
      rw [List.getElem?_append_right (by omega)] at hq
      rw [h2] at hu
      exact hub _ u q hu hq
  · obtain ⟨cur, hc⟩ := Row1.block h1 hg; exact ⟨_, cur, hc, by decide, by decide, by decide⟩
  · obtain ⟨cur, hc⟩ := Row1.block h1 hg; exact ⟨_, cur, hc, by decide⟩

theorem Iv.grow {w w' : World} {v : Value} {ks : List Int} (h : Iv w v ks) (hg : Grow w w') : Iv w' v ks := by
  obtain ⟨a, c, hv, hm, h⟩ := h
  refine ⟨a, c, hv, hm, ?_⟩
  rcases h with h | ⟨b, o, ha, hb, hc⟩
  · exact .inl h
  · exact .inr ⟨b, o, ha, Nat.lt_of_lt_of_le hb hg.size, fun j k hj => by rw [Grow.cells _ _ _ hg hb]; exact hc j k hj⟩

theorem ivFree_arg {w w' : World} {v : Value} {ks : List Int} (h : Iv w v ks) (hk : ks ≠ []) {Z B : Nat} {p r : Nat} {V : Vw} {F : Nat → Prop} (hd : Dk Z B w' p r V F) (hB : w.heap.size ≤ B) : IvFree F v := fun x hx hf => by
  obtain ⟨a, c, rfl, hm, h⟩ := h
  rcases h with h | ⟨b, o, rfl, hb, hc⟩
  · exact hk h
  · cases hx
    have h5 : B ≤ b := (hd.foot hf).1
    omega

theorem flat_take (G : List Grp) (c : Grp) (n : Nat) (hn : n ≤ c.length) : (G ++ [c]).flatten.take (G ++ [c.take n]).flatten.length = (G ++ [c.take n]).flatten := by
  rw [List.flatten_append, List.flatten_append]
  simp only [List.flatten_cons, List.flatten_nil, List.append_nil, List.length_append]
  rw [List.take_length_add_append]
  congr 1
  rw [List.length_take, Nat.min_eq_left hn]
end Go.Proofs.YtpiedpdffkfhpaaDoor

/- glacierlaw4.WalKeeps: the walk. -/
namespace Go.Proofs.YtpiedpdffkfhpaaDoor
open Go.RowKit Go.Gl Go.Wal Go.Sort

def KpInv (w : World) (p r lb : Nat) (xs : List ActD) (av sv iv : Value) (wr : World) : Prop :=
  ∃ (i : Nat) (G : List Grp) (c : Grp) (t y : Nat) (F : Nat → Prop), iv = .int .i64 (i : Int) ∧ sv = .int .i64 (y : Int) ∧ y = G.flatten.length + t ∧ i ≤ xs.length ∧ t ≤ c.length ∧ G.length ≤ i ∧ (((G ++ [c]).flatten.map List.length).sum + (G ++ [c]).flatten.length ≤ weights (xs.take i)) ∧
    Lw 16777216 w p r wN lb 0 (G.map segOf ++ [(framesD crcTab c, (framesD crcTab (c.take t)).length)]) F wr ∧ AllAt w wr av (G ++ [c]).flatten

set_option maxRecDepth 100000 in
set_option maxHeartbeats 4000000 in
theorem keeps_true {w : World} {v1 v2 : Value} {xs : List ActD} {picks : List Int} (h1 : ActsAt w v1 xs) (h2 : Iv w v2 picks) (hbulk : weights xs ≤ 1048576) (hN : Nums 1000 w.heap.size w) :
    Calls Tryd.prog 4 #[v1, v2] w fun e w' => e = .returned (.bool true) ∧ Grow w w' := by
  obtain ⟨la, lc, rfl⟩ := h1.slice
  obtain ⟨pa, pc, hpv, hpm, hpx⟩ := id h2
  subst hpv
  have H1 := Lib.hid h1
  have H2 := Lib.hid h2
  have HN0 := Lib.hid hN
  have Hk := Lib.hid (known_true w)
  have Hbulk := Lib.hid hbulk
  clear h1 h2 hN hpx hbulk
  go_enter Tryd.func4, Tryd.ntmps4
  go_wp2_with fail
  (with_reducible refine Hk.out.mono ?_)
  rintro e w1 ⟨rfl, hg1⟩
  have hfew := few_any (H1.out.grow hg1) Hbulk.out
  have Hfew := Lib.hid hfew
  have Hg1 := Lib.hid hg1
  clear hfew hg1 Hk
  go_wp2_with fail
  (with_reducible refine Hfew.out.mono ?_)
  rintro e w2 ⟨rfl, hg2⟩
  have Hg2 := Lib.hid (Hg1.out.trans hg2)
  clear hg2 Hg1 Hfew
  by_cases hfb : fewB xs = false
  · rw [hfb]
    clear hfb
    go_wp2
    go_ret
    exact ⟨rfl, Hg2.out⟩
  have hft : fewB xs = true := by simpa using hfb
  rw [hft]
  have hfw : xs.length ≤ 300 ∧ weights xs ≤ 65536 := by simpa [fewB] using hft
  clear hfb hft
  by_cases hp3 : 300 < picks.length
  · have hp3' : (300 : Int) < (picks.length : Int) := by omega
    go_wp2
    go_ret
    exact ⟨rfl, Hg2.out⟩
  have hp3' : (picks.length : Int) ≤ (300 : Int) := by omega
  have Hfw := Lib.hid hfw
  have hnew : Calls Tryd.prog 7 #[.int .i64 16777216] w2 fun e w' => e = .returned (.tuple #[.pointer (some ⟨w2.heap.size + 1, 0, none⟩), .int .i64 0]) ∧ (∃ F, Dk 16777216 w2.heap.size w' (w2.heap.size + 1) w2.heap.size [] F) ∧ Grow w2 w' := dk_new 16777216 w2 (by decide) (by decide)
  have Hnew := Lib.hid hnew
  have H1' := Lib.hid (H1.out.grow Hg2.out)
  have hN2 : Nums 1000 w2.heap.size w2 := (HN0.out.below Hg2.out).base Hg2.out.size
  have HN := Lib.hid hN2
  clear hnew hfw hN2 H1 HN0
  go_wp2_with fail
  (with_reducible refine Hnew.out.mono ?_)
  rintro e w3 ⟨rfl, ⟨F3, hd3⟩, hg3⟩
  have D3 : Ld 16777216 w2 (w2.heap.size + 1) w2.heap.size wN 0 [] F3 w3 := ⟨hd3, hg3⟩
  have hop : Calls Tryd.prog 8 #[.pointer (some ⟨w2.heap.size + 1, 0, none⟩), .string ⟨#[119]⟩, .int .i64 0] w3 _ := ld_open (N := 1000) (a := 0) D3 nmOk_w named_w HN.out (by decide) (by decide) (by decide)
  have Hop := Lib.hid hop
  have Hg3 := Lib.hid hg3
  clear hop hd3 hg3 D3 Hnew
  go_wp2_with fail
  (with_reducible refine Hop.out.mono ?_)
  rintro e w4 ⟨lb, va, vc, F4, rfl, hw4, _, _, hlb⟩
  have hlb1 : w2.heap.size ≤ lb := Nat.le_trans Hg3.out.size hlb
  have W4 : Hid (Lw 16777216 w2 (w2.heap.size + 1) w2.heap.size wN lb 0 (([] : List Grp).map segOf ++ [(framesD crcTab [], (framesD crcTab (([] : Grp).take 0)).length)]) F4 w4) := Lib.hid hw4
  clear hw4 Hop hlb Hg3
  go_wp2_with fail
  go_loopw [10, 11, 12] (fun av sv iv wr => KpInv w2 (w2.heap.size + 1) w2.heap.size lb xs av sv iv wr) (fun _ _ iv _ => xs.length - (intOf iv).toNat)
  case atStart => exact ⟨0, [], [], 0, 0, F4, rfl, rfl, rfl, Nat.zero_le _, Nat.zero_le _, Nat.le_refl _, Nat.zero_le _, W4.out, allAt_nil _ _⟩
  case round =>
    obtain ⟨i, G, c, t, y, F5, rfl, rfl, hy, hi, htc, hGl, hwt, hw5, ha5⟩ := hrel
    have hwt2 := weights_take xs i
    have hi0 : (0 : Int) ≤ (i : Int) := by omega
    have hwi : IntKind.i64.wrap ((i : Int) + 1) = (i : Int) + 1 := IntWalk.i64_in _ (by have := Hfw.out; omega)
    have hlenG : (G ++ [c]).flatten.length = G.flatten.length + c.length := by simp
    have htt := tot_segs wN 0 G c (framesD crcTab (c.take t)).length
    have hfs := frames_sum (G ++ [c]).flatten
    by_cases hlt : i < xs.length
    · have hi1 : (i : Int) < (xs.length : Int) := by omega
      obtain ⟨b, o, rfl, lb2, lv, px, pc', c0, c2, c3, hL⟩ := H1'.out.at hlt
      have hsn := weights_snoc hlt
      have hst := weights_take xs (i + 1)
      generalize xs[i] = x at *
      have hwx : x.weight = x.L.length + x.pl + (x.L.map List.length).sum := rfl
      obtain ⟨ta, tc, rfl⟩ := hL.slice
      obtain ⟨ps, hps⟩ : ∃ ps, ps = (G ++ [c]).flatten := ⟨_, rfl⟩
      rw [← hps] at ha5 hwt hlenG hfs
      obtain ⟨aa, ac, rfl⟩ := ha5.slice
      have Hps := Lib.hid hps
      have lb5 := Nat.lt_of_lt_of_le lb2 hw5.below.size
      have k0 : wr.cell? ⟨b, o + i * 4, none⟩ = some (.int .i64 x.op) := by rw [Grow.cells _ _ _ hw5.below lb2]; exact c0
      have k2 : wr.cell? ⟨b, o + i * 4 + 2, none⟩ = some (.slice ta x.L.length tc) := by rw [Grow.cells _ _ _ hw5.below lb2]; exact c2
      have W5 := Lib.hid hw5
      have A5 := Lib.hid ha5
      have HL := Lib.hid hL
      have C2 := Lib.hid c2
      have Hn := Lib.hid (And.intro hy (And.intro hwt (And.intro hsn (And.intro hst hwx))))
      have Hl := Lib.hid (And.intro hlenG (And.intro htt hfs))
      have hnext : ∀ (G' : List Grp) (c' : Grp) (t' y' : Nat) (F' : Nat → Prop) (av' : Value) (w' : World), y' = G'.flatten.length + t' → t' ≤ c'.length → G'.length ≤ i + 1 → ((G' ++ [c']).flatten.map List.length).sum + (G' ++ [c']).flatten.length ≤ weights (xs.take (i + 1)) → Lw 16777216 w2 (w2.heap.size + 1) w2.heap.size wN lb 0 (G'.map segOf ++ [(framesD crcTab c', (framesD crcTab (c'.take t')).length)]) F' w' → AllAt w2 w' av' (G' ++ [c']).flatten → KpInv w2 (w2.heap.size + 1) w2.heap.size lb xs av' (.int .i64 (y' : Int)) (.int .i64 ((i : Int) + 1)) w' :=
        fun G' c' t' y' F' av' w' h1 h2 h3 h4 h5 h6 => ⟨i + 1, G', c', t', y', F', by simp, rfl, h1, hlt, h2, h3, h4, h5, h6⟩
      have Hnext := Lib.hid hnext
      clear hL hw5 ha5 hy hwt hsn hst hwx htt hfs hlenG c0 c2 c3 hnext hwt2 hps
      by_cases ho1 : x.op = 1
      · rw [ho1] at k0
        have hap := lw_append (N := 1000) W5.out nmOk_w HN.out (by rw [List.length_map]; have := Hfw.out; omega) (by rw [List.length_map]; have := Hfw.out; omega) (ps := x.L) (HL.out.grow W5.out.below) (fun q hq => by have := len_le_sum hq; have := Hfw.out; have := Hn.out; omega) (by
          have h5 := frames_sum x.L
          have h6 := Hfw.out
          have h7 := Hn.out
          have h8 := Hl.out
          rw [h8.2.1, ← Hps.out]
          omega) (by have := Hfw.out; have := Hn.out; omega)
        rw [← framesD_append] at hap
        have Hap := Lib.hid hap
        clear hap ho1
        go_wp2_with fail
        (with_reducible refine Hap.out.mono ?_)
        rintro e w6 ⟨rfl, F6, hw6, hs6⟩
        have ha6 := A5.out.ld W5.out.disk hs6
        have hlen6 : ps.length + x.L.length ≤ 1000000000000 := by have := Hn.out; have := Hfw.out; omega
        obtain ⟨av, w7, r1, r2, r3⟩ := all_append hw6 ha6 HL.out hlen6
        have m2 : w6.cell? ⟨b, o + i * 4 + 2, none⟩ = some (.slice ta x.L.length tc) := by rw [Grow.cells _ _ _ hw6.below lb2]; exact C2.out
        have lb6 := Nat.lt_of_lt_of_le lb2 hw6.below.size
        have hfl : ps ++ x.L = (G ++ [c ++ x.L]).flatten := by rw [Hps.out]; simp
        rw [hfl] at r2
        have q1 : t ≤ (c ++ x.L).length := by rw [List.length_append]; omega
        have q2 : G.length ≤ i + 1 := by omega
        have q3 : ((G ++ [c ++ x.L]).flatten.map List.length).sum + (G ++ [c ++ x.L]).flatten.length ≤ weights (xs.take (i + 1)) := by
          rw [← hfl, List.map_append, List.sum_append, List.length_append]
          have := Hn.out
          omega
        have q4 : Lw 16777216 w2 (w2.heap.size + 1) w2.heap.size wN lb 0 (G.map segOf ++ [(framesD crcTab (c ++ x.L), (framesD crcTab ((c ++ x.L).take t)).length)]) F6 w7 := by
          rw [List.take_append_of_le_length htc]; exact r3
        have hrel := Hnext.out G (c ++ x.L) t y F6 av w7 Hn.out.1 q1 q2 q3 q4 r2
        have Hrel := Lib.hid hrel
        have Hrun := Lib.hid r1
        clear hrel r1 r2 r3 ha6 hw6 hs6 hfl Hap k0 k2 lb5 hlen6 q1 q2 q3 q4
        go_wp2_with (at_builtin; refine wpList_append rfl rfl rfl rfl Hrun.out ?_)
        go_roundw
        case rel => exact Hrel.out
        case measure => simp [intOf]; omega
      have hb1 : (x.op == 1) = false := by simp [ho1]
      by_cases ho2 : x.op = 2
      · rw [ho2] at k0
        have hsy := lw_sync (N := 1000) W5.out nmOk_w HN.out (by rw [List.length_map]; have := Hfw.out; omega) (by rw [List.length_map]; have := Hfw.out; omega)
        have Hsy := Lib.hid hsy
        clear hsy ho2 ho1 hb1
        go_wp2_with fail
        (with_reducible refine Hsy.out.mono ?_)
        rintro e w6 ⟨rfl, F6, hw6, hs6⟩
        have ha6 := A5.out.ld W5.out.disk hs6
        have hrel := Hnext.out G c c.length ps.length F6 (.slice aa ps.length ac) w6 Hl.out.1 (Nat.le_refl _) (by omega) (by rw [← Hps.out]; have := Hn.out; omega) (by rw [List.take_length]; exact hw6) (by rw [← Hps.out]; exact ha6)
        have Hrel := Lib.hid hrel
        clear hrel ha6 hw6 hs6 Hsy k0 k2 lb5
        go_wp2
        go_roundw
        case rel => exact Hrel.out
        case measure => simp [intOf]; omega
      have hb2 : (x.op == 2) = false := by simp [ho2]
      by_cases ho3 : x.op = 3
      · rw [ho3] at k0
        have hro := lw_rotate (N := 1000) W5.out hlb1 nmOk_w HN.out (by rw [List.length_map]; have := Hfw.out; omega) (by rw [List.length_map]; have := Hfw.out; omega)
        have Hro := Lib.hid hro
        clear hro ho3 ho2 ho1 hb1 hb2
        go_wp2_with fail
        (with_reducible refine Hro.out.mono ?_)
        rintro e w6 ⟨rfl, F6, hw6, hs6⟩
        have ha6 := A5.out.lw W5.out.disk W5.out.log hs6
        have hfl : ((G ++ [c]) ++ [[]]).flatten = ps := by rw [Hps.out]; simp
        have hfl2 : (G ++ [c]).flatten.length + 0 = ps.length := by rw [Hps.out]; rfl
        have hrel := Hnext.out (G ++ [c]) [] 0 ps.length F6 (.slice aa ps.length ac) w6 hfl2.symm (Nat.le_refl _) (by rw [List.length_append, List.length_singleton]; omega) (by rw [hfl]; have := Hn.out; omega) (by rw [List.map_append]; exact hw6) (by rw [hfl]; exact ha6)
        have Hrel := Lib.hid hrel
        clear hrel ha6 hw6 hs6 Hro k0 k2 lb5 hfl hfl2
        go_wp2
        go_roundw
        case rel => exact Hrel.out
        case measure => simp [intOf]; omega
      · have hb3 : (x.op == 3) = false := by simp [ho3]
        have hrel := Hnext.out G c t y F5 (.slice aa ps.length ac) wr Hn.out.1 htc (by omega) (by rw [← Hps.out]; have := Hn.out; omega) W5.out (by rw [← Hps.out]; exact A5.out)
        have Hrel := Lib.hid hrel
        clear hrel ho1 ho2 ho3
        go_wp2
        go_roundw
        case rel => exact Hrel.out
        case measure => simp [intOf]; omega
    · obtain rfl : i = xs.length := by omega
      obtain ⟨aa, ac, rfl⟩ := ha5.slice
      obtain ⟨hcap, hcapm⟩ := ha5.cap rfl
      rw [List.take_length] at hwt
      have h67 : ∀ g ∈ G ++ [c], ∀ q ∈ g, q.length ≤ 67108864 := fun g hg q hq => by
        have h5 : q ∈ (G ++ [c]).flatten := List.mem_flatten.2 ⟨g, hg, hq⟩
        have := len_le_sum h5
        have := Hfw.out
        omega
      obtain ⟨n, hn1, hn2, hop1, hop2⟩ := crash_open picks G c t htc h67
      have hSl : (G.map segOf ++ [(framesD crcTab c, (framesD crcTab (c.take t)).length)]).length = G.length + 1 := by simp
      have hcs := cut_sum picks (G.map segOf ++ [(framesD crcTab c, (framesD crcTab (c.take t)).length)]) 0
      have hcl := cutL_len picks (G.map segOf ++ [(framesD crcTab c, (framesD crcTab (c.take t)).length)]) 0
      rw [← tot_LV wN _ 0, ← tot_LV wN _ 0, htt] at hcs
      rw [hSl] at hcl
      have hcr := ld_crash hw5.ld (by rw [hSl]; have := Hfw.out; omega) (H2.out.grow (Hg2.out.trans hw5.below)) (fun hne => ivFree_arg H2.out hne hw5.disk Hg2.out.size)
      have Hcr := Lib.hid hcr
      obtain ⟨P, hP⟩ : ∃ P, P = (G ++ [c.take n]).flatten := ⟨_, rfl⟩
      have hPl : P.length = G.flatten.length + n := by rw [hP]; simp; omega
      have hPt : (G ++ [c]).flatten.take P.length = P := by rw [hP]; exact flat_take G c n hn2
      rw [← hP] at hop1
      have W5 := Lib.hid hw5
      have A5 := Lib.hid ha5
      obtain ⟨all, hall⟩ : ∃ all, all = (G ++ [c]).flatten := ⟨_, rfl⟩
      rw [← hall] at hPt hlenG hfs hwt hcap
      rw [← hall]
      have hyP : (y : Int) ≤ (P.length : Int) := by omega
      have hPa : (P.length : Int) ≤ (all.length : Int) := by omega
      have hPc : (P.length : Int) ≤ (ac : Int) := by omega
      have hP0 : (0 : Int) ≤ (P.length : Int) := by omega
      have hall3 : all.length ≤ 1000000 := by have := Hfw.out; omega
      have Hop1 := Lib.hid (And.intro hop1 hop2)
      have Hcs := Lib.hid (And.intro hcs (And.intro hcl (And.intro hfs (And.intro hwt (And.intro hPt (And.intro hP (And.intro hPl (And.intro hlenG hall))))))))
      have H67 := Lib.hid h67
      clear hcr hop1 hop2 hcs hcl hfs hwt hPt hP hPl hlenG hall hw5 ha5 hSl htt hy hwt2 hcap h67
      go_wp2_with fail
      (with_reducible refine Hcr.out.mono ?_)
      rintro e w8 ⟨rfl, F8, D8, hs8⟩
      have ha8 := A5.out.ld W5.out.disk hs8
      have hPs : (P.map List.length).sum ≤ (all.map List.length).sum := by have := lens_take all P.length; rw [Hcs.out.2.2.2.2.1] at this; exact this
      have hop3 : Calls Tryd.prog 8 #[.pointer (some ⟨w2.heap.size + 1, 0, none⟩), .string ⟨#[119]⟩, .int .i64 0] w8 _ := ld_open (N := 1000) (a := 0) D8 nmOk_w named_w HN.out (by rw [Hcs.out.2.1]; have := Hfw.out; omega) (by rw [Hcs.out.2.1]; have := Hfw.out; omega) (by
        have h5 := Hcs.out
        have h6 := Hfw.out
        have h7 := h5.1
        rw [← h5.2.2.2.2.2.2.2.2] at h7
        have h8 : tot (LV [119] 0 (cutL picks 0 (G.map segOf ++ [(framesD crcTab c, (framesD crcTab (c.take t)).length)]))) ≤ (framesD crcTab all).length := h7
        clear h7
        omega)
      rw [Hop1.out.1, Hop1.out.2] at hop3
      have Hop3 := Lib.hid hop3
      have D8' := Lib.hid D8
      have A8 := Lib.hid ha8
      clear hop3 D8 ha8 hs8 Hcr
      go_wp2_with fail
      (with_reducible refine Hop3.out.mono ?_)
      rintro e w9 ⟨lb2, va2, vc2, F9, rfl, hw9, hr9, hs9, _⟩
      have ha9 := A8.out.ld D8'.out.disk hs9
      have hr9' : Rv w9 (.slice va2 P.length vc2) P := hr9.own.rv
      have hal9 : Rv w9 (.slice aa P.length ac) P := by
        have := (ha9.rv hw9.below).take (k := P.length) (by rw [← Hcs.out.2.2.2.2.2.2.2.2]; omega)
        rw [← Hcs.out.2.2.2.2.2.2.2.2, Hcs.out.2.2.2.2.1] at this
        exact this
      have hsm := same_any hr9' hal9 (by omega) (by omega)
      rw [decide_eq_true (rfl : P = P)] at hsm
      have Hsm := Lib.hid hsm
      have W9 := Lib.hid hw9
      have R9 := Lib.hid hr9
      clear hsm hw9 hr9 hr9' hal9 ha9 hs9 Hop3
      go_wp2_with fail
      (with_reducible refine Hsm.out.mono ?_)
      rintro e w10 ⟨rfl, hg10⟩
      have hw10 := W9.out.grow hg10
      have hr10 := R9.out.grow hg10
      have hop4 : Calls Tryd.prog 8 #[.pointer (some ⟨w2.heap.size + 1, 0, none⟩), .string ⟨#[119]⟩, .int .i64 0] w10 _ := ld_open (N := 1000) (a := 0) hw10.ld nmOk_w named_w HN.out (by rw [List.length_map, List.length_append, List.length_singleton]; have := Hfw.out; omega) (by rw [List.length_map, List.length_append, List.length_singleton]; have := Hfw.out; omega) (by
        rw [tot_segs', ← Hcs.out.2.2.2.2.2.1]
        have h5 := frames_sum P
        have h6 := Hcs.out
        have h7 := Hfw.out
        omega)
      rw [openL_segs (G := G ++ [c.take n]) (fun g hg q hq => by
        rcases List.mem_append.1 hg with hg | hg
        · exact H67.out g (List.mem_append_left _ hg) q hq
        · rw [List.mem_singleton.1 hg] at hq
          exact H67.out c (by simp) q (List.mem_of_mem_take hq)), ← Hcs.out.2.2.2.2.2.1] at hop4
      have Hop4 := Lib.hid hop4
      have W10 := Lib.hid hw10
      have R10 := Lib.hid hr10
      clear hop4 hw10 hr10 hg10 Hsm
      go_wp2_with fail
      (with_reducible refine Hop4.out.mono ?_)
      rintro e w11 ⟨lb3, va3, vc3, F11, rfl, hw11, hr11, hs11, _⟩
      have hr10' : Rv w11 (.slice va2 P.length vc2) P := (R10.out.sep W10.out.disk hs11).own.rv
      have hr11' : Rv w11 (.slice va3 P.length vc3) P := hr11.own.rv
      have hsm := same_any hr10' hr11' (by omega) (by omega)
      rw [decide_eq_true (rfl : P = P)] at hsm
      have Hsm := Lib.hid hsm
      have Hbel := Lib.hid (Hg2.out.trans hw11.below)
      clear hsm hr10' hr11' hr11 hs11 hw11 Hop4
      go_wp2_with fail
      (with_reducible refine Hsm.out.mono ?_)
      rintro e w12 ⟨rfl, hg12⟩
      have Hend : Hid (Grow w w12) := Lib.hid (Hbel.out.trans hg12)
      clear hg12
      go_wp2
      go_ret
      exact ⟨rfl, Hend.out⟩
end Go.Proofs.YtpiedpdffkfhpaaDoor
