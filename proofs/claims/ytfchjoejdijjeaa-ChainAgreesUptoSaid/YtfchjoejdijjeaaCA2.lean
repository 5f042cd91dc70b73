/- Merged out of GA: helpers. -/
import Derived.Test.YtfchjoejdijjeaaCX2
set_option linter.unusedSimpArgs false
set_option linter.unusedVariables false
/- ChainAgrees: rows of moves that came in, opened with their bulk; few. -/
namespace Go.Ch
/-- A move as the law has it. -/
structure Turn where
  op : Int
  node : Int
  n : Int
  bs : List UInt8
def bulkM (l : List Turn) : Nat := (l.map fun m => m.bs.length).sum
def fewM (l : List Turn) : Bool := decide (l.length ≤ 1500) && decide (bulkM l ≤ 16384)
theorem bulk_take {l : List Turn} {j : Nat} {m : Turn} (h : l[j]? = some m) : bulkM (l.take (j + 1)) = bulkM (l.take j) + m.bs.length := by
  obtain ⟨h1, h2⟩ := List.getElem?_eq_some_iff.1 h
  unfold bulkM
  rw [List.take_succ_eq_append_getElem h1, h2]; simp
theorem bulk_le : ∀ (l : List Turn) (j : Nat), bulkM (l.take j) ≤ bulkM l
  | [], j => by simp [bulkM]
  | m :: l, 0 => by simp [bulkM]
  | m :: l, j + 1 => by
    have := bulk_le l j
    unfold bulkM at this ⊢
    simp only [List.take_succ_cons, List.map_cons, List.sum_cons]; omega
end Go.Ch
namespace Go.Proofs.Ytfchjoejdijjeaa
open Go.ChangeShapes Go.WideShapes Go.ChangeAt Go.RowKit Go.Gl Go.Wal Go.Ch
def MvAt (w : World) (b o : Nat) (m : Turn) : Prop :=
  ∃ u, w.cell? ⟨b, o, none⟩ = some (.int .i64 m.op) ∧ w.cell? ⟨b, o + 1, none⟩ = some (.int .i64 m.node) ∧ w.cell? ⟨b, o + 2, none⟩ = some (.int .i64 m.n) ∧ w.cell? ⟨b, o + 3, none⟩ = some u ∧ Bv w u m.bs
/-- A row of moves. -/
def MvR (w : World) (v : Value) (ms : List Turn) : Prop :=
  ∃ a c, v = .slice a ms.length c ∧ (ms = [] ∨ ∃ b o, a = some ⟨b, o, none⟩ ∧ b < w.heap.size ∧ ∀ (j : Nat) (m : Turn), ms[j]? = some m → MvAt w b (o + j * 4) m)
section
variable {H : Type} {enc : TypeId × Value → H} {w w' : World} {base : Nat} {spare : Nat → Bool} {held : Bool}
theorem MvAt.grow {b o : Nat} {m : Turn} (h : MvAt w b o m) (hb : b < w.heap.size) (hg : Grow w w') : MvAt w' b o m := by
  obtain ⟨u, h0, h1, h2, h3, h4⟩ := h
  exact ⟨u, by rw [hg.cell hb]; exact h0, by rw [hg.cell hb]; exact h1, by rw [hg.cell hb]; exact h2, by rw [hg.cell hb]; exact h3, h4.grow hg⟩
theorem MvR.grow {v : Value} {ms : List Turn} (h : MvR w v ms) (hg : Grow w w') : MvR w' v ms := by
  obtain ⟨a, c, hv, h⟩ := h
  refine ⟨a, c, hv, ?_⟩
  rcases h with h | ⟨b, o, ha, hb, hc⟩
  · exact .inl h
  · exact .inr ⟨b, o, ha, Nat.lt_of_lt_of_le hb hg.size, fun j m hm => (hc j m hm).grow hb hg⟩
theorem MvR.get {v : Value} {ms : List Turn} (h : MvR w v ms) {j : Nat} {m : Turn} (hm : ms[j]? = some m) : ∃ b o c, v = .slice (some ⟨b, o, none⟩) ms.length c ∧ b < w.heap.size ∧ MvAt w b (o + j * 4) m := by
  obtain ⟨a, c, hv, h⟩ := h
  rcases h with h | ⟨b, o, rfl, hb, hc⟩
  · rw [h] at hm; simp at hm
  · exact ⟨b, o, c, hv, hb, hc j m hm⟩
theorem MvR.slice {v : Value} {ms : List Turn} (h : MvR w v ms) : ∃ a c, v = .slice a ms.length c := by
  obtain ⟨a, c, e, _⟩ := h
  exact ⟨a, c, e⟩
theorem opened4 {a : Addr} {cs : List Value} (h : w.cells? base a 4 = some cs) : ∃ v0 v1 v2 v3, cs = [v0, v1, v2, v3] ∧ w.cell? a = some v0 ∧ w.cell? (a.add 1) = some v1 ∧ w.cell? (a.add 2) = some v2 ∧ w.cell? (a.add 3) = some v3 := by
  unfold World.cells? at h
  split at h
  · have e : List.range 4 = [0, 1, 2, 3] := rfl
    rw [e] at h
    simp only [List.mapM_cons, List.mapM_nil, Option.bind_eq_bind, Option.bind_eq_some_iff, Option.pure_def, Option.some.injEq] at h
    obtain ⟨v0, h0, _, ⟨v1, h1, _, ⟨v2, h2, _, ⟨v3, h3, _, rfl, rfl⟩, rfl⟩, rfl⟩, rfl⟩ := h
    exact ⟨v0, v1, v2, v3, rfl, by simpa [Addr.add] using h0, h1, h2, h3⟩
  · cases h
theorem open_move {b o : Nat} {cs : List Value} {n : Nat} {x : DataW H × List MemPlace} (hc : w.cells? base ⟨b, o, none⟩ 4 = some cs) (h : DataW.trod enc Try.prog w base spare held n 30 cs = some x) : ∃ m : Turn, MvAt w b o m ∧ m.bs.length ≤ Rows.uptoBulk x.1 := by
  obtain ⟨xs, m, _, hx, hl, hlen, hf⟩ := DataW.trod_struct Try.underlying30 h
  obtain ⟨v0, v1, v2, v3, rfl, c0, c1, c2, c3⟩ := opened4 hc
  rw [Addr.add_lit] at c1 c2 c3
  have k3 : Try.prog.cellsOf 3 = 1 := by kernel_rfl
  have kB : Try.prog.cellsOf 28 = 1 := by kernel_rfl
  match xs, hlen with
  | [y0, y1, y2, y3], _ =>
    have f0 : DataW.trod enc Try.prog w base spare held m 3 [v0] = some y0 := by have h7 := hf 0 _ rfl; simpa [k3] using h7
    have f1 : DataW.trod enc Try.prog w base spare held m 3 [v1] = some y1 := by have h7 := hf 1 _ rfl; simpa [k3] using h7
    have f2 : DataW.trod enc Try.prog w base spare held m 3 [v2] = some y2 := by have h7 := hf 2 _ rfl; simpa [k3] using h7
    have f3 : DataW.trod enc Try.prog w base spare held m 28 [v3] = some y3 := by have h7 := hf 3 _ rfl; simpa [k3, kB] using h7
    obtain ⟨n0, e0, _⟩ := DataW.trod_int Try.underlying3 f0
    obtain ⟨n1, e1, _⟩ := DataW.trod_int Try.underlying3 f1
    obtain ⟨n2, e2, _⟩ := DataW.trod_int Try.underlying3 f2
    simp only [List.cons.injEq, and_true] at e0 e1 e2
    subst e0 e1 e2
    obtain ⟨l, hb⟩ := open_b f3
    obtain ⟨ua, uc, rfl⟩ := hb.slice
    have hlb := len_bulk Try.underlying28 f3
    refine ⟨⟨n0, n1, n2, l⟩, ⟨_, c0, c1, c2, c3, hb⟩, ?_⟩
    rw [hx]
    simp only [Rows.uptoBulk, Rows.uptoBulkAll, List.map_cons, List.map_nil]
    show l.length ≤ _
    omega
theorem sum_bulk {f : Nat → Turn} {D : Nat → DataW H} : ∀ (l : List Nat), (∀ i ∈ l, (f i).bs.length ≤ Rows.uptoBulk (D i)) → bulkM (l.map f) ≤ Rows.uptoBulkAll (l.map D)
  | [], _ => by simp [bulkM]
  | i :: l, h => by
    have h1 := sum_bulk l (fun j hj => h j (List.mem_cons_of_mem _ hj))
    have h2 := h i List.mem_cons_self
    unfold bulkM at h1 ⊢
    simp only [List.map_cons, List.sum_cons, Rows.uptoBulkAll]; omega
theorem open_moves {v : Value} {fuel : Nat} {x : DataW H × List MemPlace} (h : DataW.trod enc Try.prog w base spare held fuel 22 [v] = some x) : ∃ ms, MvR w v ms ∧ bulkM ms ≤ Rows.uptoBulk x.1 ∧ ms.length ≤ Rows.uptoBulk x.1 := by
  have k1 : Try.prog.cellsOf 30 = 4 := by kernel_rfl
  rcases Go.Deep.open_slice Try.underlying22 h with ⟨hcs, _⟩ | ⟨a, len, cap, m, n, D, Pl, hcs, _, hl, hm, hmm, hx, hel⟩
  · simp only [List.cons.injEq, and_true] at hcs
    subst hcs
    exact ⟨[], ⟨none, 0, rfl, .inl rfl⟩, by simp [bulkM], by simp⟩
  · simp only [List.cons.injEq, and_true] at hcs
    subst hcs
    rw [k1] at hel
    have hlm : len ≤ m := by rw [hmm]; split <;> omega
    by_cases hl0 : len = 0
    · subst hl0
      exact ⟨[], ⟨some a, cap, rfl, .inl rfl⟩, by simp [bulkM], by simp⟩
    · obtain ⟨cs0, hc0, _⟩ := hel 0 (by omega)
      obtain ⟨b, o, sp⟩ := a
      obtain ⟨v0, _, _, _, _, hz0, _⟩ := opened4 hc0
      have hz : w.cell? ⟨b, o, sp⟩ = some v0 := by simpa [Addr.add] using hz0
      have hsp := spot_of_cell hz
      simp only at hsp
      subst hsp
      have hlt := World.block_lt_of_cell? w _ hz
      have hall : ∀ i, i < len → ∃ e : Turn, MvAt w b (o + i * 4) e ∧ e.bs.length ≤ Rows.uptoBulk (D i) := fun i hi => by
        obtain ⟨cs', h1, h2⟩ := hel i (by omega)
        rw [Addr.add_lit] at h1
        exact open_move h1 h2
      have : Inhabited Turn := ⟨⟨0, 0, 0, []⟩⟩
      obtain ⟨f, hf⟩ := Go.Deep.choose_lt hall
      have hsum := sum_bulk (f := f) (D := D) (List.range len) (fun i hi => (hf i (List.mem_range.1 hi)).2)
      have hlb := bulk_length ((List.range len).map D)
      refine ⟨(List.range len).map f, ⟨some ⟨b, o, none⟩, cap, by simp, .inr ⟨b, o, rfl, hlt, fun i y hy => ?_⟩⟩, ?_, ?_⟩
      · simp only [List.getElem?_map, Option.map_eq_some_iff] at hy
        obtain ⟨j, hj, rfl⟩ := hy
        have hil : i < len := by have := (List.getElem?_eq_some_iff.1 hj).1; simpa using this
        rw [List.getElem?_range hil] at hj
        cases hj
        exact (hf i hil).1
      · rw [hx]; simp only [Rows.uptoBulk]; omega
      · rw [hx]; simp only [Rows.uptoBulk]; simp only [List.length_map, List.length_range] at hlb ⊢; omega
/-- few. -/
theorem few_any {v : Value} {ms : List Turn} (h : MvR w v ms) (hb : bulkM ms ≤ 1048576) (hl : ms.length ≤ 1048576) :
    Calls Try.prog 7 #[v] w fun e w' => e = .returned (.bool (fewM ms)) ∧ w' = w := by
  obtain ⟨a, cc, rfl⟩ := h.slice
  have H := Lib.hid h
  clear h
  have Hb := Lib.hid hb
  have Hl := Lib.hid hl
  clear hb hl
  go_enter Try.func7, Try.ntmps7
  go_wp2_with fail
  obtain ⟨wv, hwv⟩ : ∃ W, W = w := ⟨_, rfl⟩
  rw [← hwv]
  go_loopw [3, 4] (fun nv iv wx => ∃ j : Nat, iv = .int .i64 j ∧ j ≤ ms.length ∧ nv = .int .i64 (bulkM (ms.take j) : Int) ∧ wx = wv) (fun _ iv _ => ms.length - (intOf iv).toNat)
  case atStart => exact ⟨0, rfl, Nat.zero_le _, by simp [bulkM], rfl⟩
  case round =>
    obtain ⟨j, rfl, hj, rfl, hww⟩ := hrel
    subst hww
    subst hwv
    have hbt := bulk_le ms j
    by_cases hlt : j < ms.length
    · obtain ⟨m, hm⟩ : ∃ m, ms[j]? = some m := ⟨ms[j], by simp [hlt]⟩
      have h1 := H.out
      obtain ⟨b, o, c, e, hbl, u, c0, c1, c2, c3, hu⟩ := h1.get hm
      cases e
      obtain ⟨ua, uc, rfl⟩ := hu.slice
      have hnx := bulk_take hm
      have hbt2 := bulk_le ms (j + 1)
      have hj1 : (j : Int) < (ms.length : Int) := by omega
      obtain ⟨s, hs⟩ : ∃ s, bulkM (ms.take j) = s := ⟨_, rfl⟩
      rw [hs] at hnx hbt ⊢
      have hw1 : IntKind.i64.wrap ((s : Int) + (m.bs.length : Int)) = (s : Int) + (m.bs.length : Int) := IntWalk.i64_in _ (by have := Hb.out; omega)
      have hwj : IntKind.i64.wrap ((j : Int) + 1) = (j : Int) + 1 := IntWalk.i64_in _ (by have := Hl.out; omega)
      have Hnx := Lib.hid hnx
      obtain ⟨LN, hLN⟩ : ∃ n, m.bs.length = n := ⟨_, rfl⟩
      rw [hLN] at hw1 c3
      have HLN := Lib.hid hLN
      clear hnx hm hu h1 hbt2 hs hLN c0 c1 c2 hbt
      go_wp2
      go_roundw
      case rel => exact ⟨j + 1, by simp, hlt, by rw [Hnx.out, HLN.out]; simp, trivial⟩
      case measure => simp [intOf]; omega
    · obtain rfl : j = ms.length := by omega
      rw [List.take_length]
      obtain ⟨b1, hb1⟩ : ∃ b, decide ((ms.length : Int) ≤ 1500) = b := ⟨_, rfl⟩
      obtain ⟨b2, hb2⟩ : ∃ b, decide ((bulkM ms : Int) ≤ 16384) = b := ⟨_, rfl⟩
      have Hres : Hid (fewM ms = (b1 && b2)) := Lib.hid (by
        unfold fewM
        rw [← hb1, ← hb2]
        congr 1
        · exact decide_eq_decide.2 (by omega)
        · exact decide_eq_decide.2 (by omega))
      have hj1 : ¬ (ms.length : Int) < (ms.length : Int) := by omega
      clear hbt hj hlt
      cases b1 <;> cases b2
      all_goals
        go_wp2
        go_ret
        exact ⟨by rw [Hres.out]; rfl, rfl⟩
end
end Go.Proofs.Ytfchjoejdijjeaa
