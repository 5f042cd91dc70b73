/- Merged out of FZ: helpers. -/
import Derived.Test.YtfchjoejdijjeaaCU2
import Derived.Test.YtfchjoejdijjeaaRows
set_option linter.unusedSimpArgs false
set_option linter.unusedVariables false
/- Rows of bytes that came in, opened with their bulk. -/
namespace Go.Proofs.Ytfchjoejdijjeaa
open Go.ChangeShapes Go.WideShapes Go.ChangeAt Go.RowKit Go.Gl Go.Wal Go.Ch
section
variable {H : Type} {enc : TypeId × Value → H} {w : World} {base : Nat} {spare : Nat → Bool} {held : Bool}
theorem bulk_one (d : DataW H) : 1 ≤ Rows.uptoBulk d := by
  cases d with
  | lit l => cases l <;> simp [Rows.uptoBulk]
  | nil => simp [Rows.uptoBulk]
  | ptr d => simp [Rows.uptoBulk]
  | slice elems spare => simp [Rows.uptoBulk]
  | agg parts => simp [Rows.uptoBulk]
  | iface t d => simp [Rows.uptoBulk]
  | map entries => simp [Rows.uptoBulk]
  | held h => simp [Rows.uptoBulk]

theorem bulk_length : ∀ l : List (DataW H), l.length ≤ Rows.uptoBulkAll l
  | [] => Nat.zero_le _
  | x :: r => by have := bulk_one x; have := bulk_length r; simp only [Rows.uptoBulkAll, List.length_cons]; omega

theorem bulk_mem {d : DataW H} : ∀ {l : List (DataW H)}, d ∈ l → Rows.uptoBulk d ≤ Rows.uptoBulkAll l
  | [], h => by cases h
  | x :: r, h => by
    simp only [Rows.uptoBulkAll]
    rcases List.mem_cons.1 h with rfl | h
    · omega
    · have := bulk_mem h; omega
/-- A slice is no longer than its bulk. -/
theorem len_bulk {t e : TypeId} {a : Option Addr} {l c fuel : Nat} {x : DataW H × List MemPlace} (ht : Try.prog.underlying t = some (.slice e)) (h : DataW.trod enc Try.prog w base spare held fuel t [.slice a l c] = some x) : l ≤ Rows.uptoBulk x.1 := by
  rcases Go.Deep.open_slice ht h with ⟨hcs, _⟩ | ⟨a', len, cap, m, n, D, Pl, hcs, _, hl, hm, hmm, hx, hel⟩
  · simp only [List.cons.injEq, and_true] at hcs
    cases hcs
    exact Nat.zero_le _
  · simp only [List.cons.injEq, and_true] at hcs
    cases hcs
    rw [hx]
    have h1 := bulk_length ((List.range l).map D)
    simp only [List.length_map, List.length_range] at h1
    simp only [Rows.uptoBulk]
    omega

theorem open_rowsB {v : Value} {fuel : Nat} {x : DataW H × List MemPlace} (h : DataW.trod enc Try.prog w base spare held fuel 32 [v] = some x) : ∃ ps, Rv w v ps ∧ ∀ p ∈ ps, p.length ≤ Rows.uptoBulk x.1 := by
  have k1 : Try.prog.cellsOf 28 = 1 := by kernel_rfl
  rcases Go.Deep.open_slice Try.underlying32 h with ⟨hcs, _⟩ | ⟨a, len, cap, m, n, D, Pl, hcs, _, hl, hm, hmm, hx, hel⟩
  · simp only [List.cons.injEq, and_true] at hcs
    subst hcs
    exact ⟨[], ⟨none, 0, rfl, .inl rfl⟩, fun p hp => by cases hp⟩
  · simp only [List.cons.injEq, and_true] at hcs
    subst hcs
    rw [k1] at hel
    have hlm : len ≤ m := by rw [hmm]; split <;> omega
    by_cases hl0 : len = 0
    · subst hl0
      exact ⟨[], ⟨some a, cap, rfl, .inl rfl⟩, fun p hp => by cases hp⟩
    · obtain ⟨cs0, hc0, _⟩ := hel 0 (by omega)
      obtain ⟨b, o, sp⟩ := a
      obtain ⟨v0, _, hz0⟩ := opened1 hc0
      have hz : w.cell? ⟨b, o, sp⟩ = some v0 := by simpa [Addr.add] using hz0
      have hsp := spot_of_cell hz
      simp only at hsp
      subst hsp
      have hlt := World.block_lt_of_cell? w _ hz
      have hall : ∀ i, i < len → ∃ p : List UInt8, (∃ pv, w.cell? ⟨b, o + i, none⟩ = some pv ∧ Bv w pv p) ∧ p.length ≤ Rows.uptoBulk (D i) := fun i hi => by
        obtain ⟨cs', h1, h2⟩ := hel i (by omega)
        rw [Addr.add_lit, Nat.mul_one] at h1
        obtain ⟨pv, rfl, h3⟩ := opened1 h1
        obtain ⟨p, hp⟩ := open_b h2
        obtain ⟨pa, pc, rfl⟩ := hp.slice
        exact ⟨p, ⟨_, h3, hp⟩, len_bulk Try.underlying28 h2⟩
      obtain ⟨f, hf⟩ := Go.Deep.choose_lt hall
      refine ⟨(List.range len).map f, ⟨some ⟨b, o, none⟩, cap, by simp, .inr ⟨b, o, rfl, hlt, fun i y hy => ?_⟩⟩, fun p hp => ?_⟩
      · simp only [List.getElem?_map, Option.map_eq_some_iff] at hy
        obtain ⟨j, hj, rfl⟩ := hy
        have hil : i < len := by have := (List.getElem?_eq_some_iff.1 hj).1; simpa using this
        rw [List.getElem?_range hil] at hj
        cases hj
        exact (hf i hil).1
      · obtain ⟨i, hi, rfl⟩ := List.mem_map.1 hp
        have hil : i < len := by simpa using hi
        have h1 := (hf i hil).2
        have h2 := bulk_mem (d := D i) (l := (List.range len).map D) (List.mem_map.2 ⟨i, hi, rfl⟩)
        rw [hx]
        simp only [Rows.uptoBulk]
        omega
end
end Go.Proofs.Ytfchjoejdijjeaa
