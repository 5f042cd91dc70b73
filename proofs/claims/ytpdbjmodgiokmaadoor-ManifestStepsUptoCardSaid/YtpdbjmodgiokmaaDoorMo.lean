/- A slice of edits that came in, opened: each edit's tables and files; no condition. -/
import Derived.Test.YtpdbjmodgiokmaaDoorM9
import Derived.Deep.Slices
import Derived.Lib.SmallJoins
namespace Go.Proofs.YtpdbjmodgiokmaaDoor
open Go.ChangeShapes Go.WideShapes Go.ChangeAt Go.RowKit Go.Gl

section
variable {H : Type} {enc : TypeId × Value → H} {w : World} {base : Nat} {spare : Nat → Bool} {held : Bool}

theorem spot_of_cell {w : World} {a : Addr} {v : Value} (h : w.cell? a = some v) : a.spot = none := by
  unfold World.cell? at h
  split at h
  · cases hs : a.spot with
    | none => rfl
    | some s => simp [hs] at h
  · cases h

theorem opened5 {a : Addr} {cs : List Value} (h : w.cells? base a 5 = some cs) : ∃ v0 v1 v2 v3 v4, cs = [v0, v1, v2, v3, v4] ∧ w.cell? a = some v0 ∧ w.cell? (a.add 1) = some v1 ∧ w.cell? (a.add 2) = some v2 ∧ w.cell? (a.add 3) = some v3 ∧ w.cell? (a.add 4) = some v4 := by
  unfold World.cells? at h
  split at h
  · have e : List.range 5 = [0, 1, 2, 3, 4] := rfl
    rw [e] at h
    simp only [List.mapM_cons, List.mapM_nil, Option.bind_eq_bind, Option.bind_eq_some_iff, Option.pure_def, Option.some.injEq] at h
    obtain ⟨v0, h0, _, ⟨v1, h1, _, ⟨v2, h2, _, ⟨v3, h3, _, ⟨v4, h4, _, rfl, rfl⟩, rfl⟩, rfl⟩, rfl⟩, rfl⟩ := h
    exact ⟨v0, v1, v2, v3, v4, rfl, by simpa [Addr.add] using h0, h1, h2, h3, h4⟩
  · cases h

theorem open_drop {v : Value} {fuel : Nat} {x : DataW H × List MemPlace} (h : DataW.trod enc Tryd.prog w base spare held fuel 29 [v] = some x) : ∃ ks, Ints w v ks ∧ ks.length ≤ maxLen := by
  rcases open_ints Tryd.underlying29 Tryd.underlying3 (by kernel_rfl) h with ⟨hcs, _⟩ | ⟨a, l, c, zs, hcs, _, hl, hm, hz, _, hcell, hwz⟩
  · simp only [List.cons.injEq, and_true] at hcs
    exact ⟨[], ⟨none, 0, by rw [hcs]; rfl, by simp, .inl rfl⟩, by simp⟩
  · simp only [List.cons.injEq, and_true] at hcs
    subst hcs
    have hzl : l ≤ zs.length := by rw [hz]; split <;> omega
    by_cases hl0 : l = 0
    · subst hl0
      exact ⟨[], ⟨some a, c, rfl, by simp, .inl rfl⟩, by simp⟩
    · have h0 := hcell 0 (by omega)
      have hsp := spot_of_cell h0
      obtain ⟨b, o, sp⟩ := a
      simp only [Addr.add, if_true] at hsp
      subst hsp
      have hlt := World.block_lt_of_cell? w _ h0
      rw [Addr.add_lit] at hlt
      have e : (zs.take l).length = l := by simp; omega
      refine ⟨zs.take l, ⟨some ⟨b, o, none⟩, c, by rw [e], by rw [e]; exact hl, .inr ⟨b, o, rfl, hlt, fun j k hk => ?_⟩⟩, by rw [e]; omega⟩
      rw [List.getElem?_take] at hk
      split at hk
      · have h1 := hcell j (by omega)
        rw [Addr.add_lit] at h1
        rw [h1]
        simp [List.getD, hk]
      · cases hk

theorem open_tab {b o : Nat} {cs : List Value} {n : Nat} {x : DataW H × List MemPlace} (hc : w.cells? base ⟨b, o, none⟩ 5 = some cs) (h : DataW.trod enc Tryd.prog w base spare held n 38 cs = some x) : ∃ t : Tb, ∀ (c : Nat) (u : Value), (encTb t)[c]? = some u → w.cell? ⟨b, o + c, none⟩ = some u := by
  obtain ⟨xs, m, _, _, hl, hlen, hf⟩ := DataW.trod_struct Tryd.underlying38 h
  obtain ⟨v0, v1, v2, v3, v4, rfl, c0, c1, c2, c3, c4⟩ := opened5 hc
  rw [Addr.add_lit] at c1 c2 c3 c4
  have k3 : Tryd.prog.cellsOf 3 = 1 := by kernel_rfl
  have k9 : Tryd.prog.cellsOf 9 = 1 := by kernel_rfl
  match xs, hlen with
  | [y0, y1, y2, y3, y4], _ =>
    have f0 : DataW.trod enc Tryd.prog w base spare held m 3 [v0] = some y0 := by have h7 := hf 0 _ rfl; simpa [k3] using h7
    have f1 : DataW.trod enc Tryd.prog w base spare held m 3 [v1] = some y1 := by have h7 := hf 1 _ rfl; simpa [k3] using h7
    have f2 : DataW.trod enc Tryd.prog w base spare held m 9 [v2] = some y2 := by have h7 := hf 2 _ rfl; simpa [k3, k9] using h7
    have f3 : DataW.trod enc Tryd.prog w base spare held m 9 [v3] = some y3 := by have h7 := hf 3 _ rfl; simpa [k3, k9] using h7
    have f4 : DataW.trod enc Tryd.prog w base spare held m 3 [v4] = some y4 := by have h7 := hf 4 _ rfl; simpa [k3, k9] using h7
    obtain ⟨n0, e0, _⟩ := DataW.trod_int Tryd.underlying3 f0
    obtain ⟨n1, e1, _⟩ := DataW.trod_int Tryd.underlying3 f1
    obtain ⟨s2, e2, _⟩ := DataW.trod_string Tryd.underlying9 f2
    obtain ⟨s3, e3, _⟩ := DataW.trod_string Tryd.underlying9 f3
    obtain ⟨n4, e4, _⟩ := DataW.trod_int Tryd.underlying3 f4
    simp only [List.cons.injEq, and_true] at e0 e1 e2 e3 e4
    subst e0 e1 e2 e3 e4
    refine ⟨⟨n0, n1, s2, s3, n4⟩, fun c u hu => ?_⟩
    match c, hu with
    | 0, hu => cases hu; exact c0
    | 1, hu => cases hu; exact c1
    | 2, hu => cases hu; exact c2
    | 3, hu => cases hu; exact c3
    | 4, hu => cases hu; exact c4
    | c + 5, hu => simp [encTb] at hu

theorem open_tabs {v : Value} {fuel : Nat} {x : DataW H × List MemPlace} (h : DataW.trod enc Tryd.prog w base spare held fuel 24 [v] = some x) : ∃ l, Tabs w v l ∧ l.length ≤ maxLen := by
  have k38 : Tryd.prog.cellsOf 38 = 5 := by kernel_rfl
  rcases Go.Deep.open_slice Tryd.underlying24 h with ⟨hcs, _⟩ | ⟨a, len, cap, m, n, D, Pl, hcs, _, hl, hm, hmm, _, hel⟩
  · simp only [List.cons.injEq, and_true] at hcs
    exact ⟨[], ⟨none, 0, by rw [hcs]; rfl, .inl rfl⟩, by simp⟩
  · simp only [List.cons.injEq, and_true] at hcs
    subst hcs
    rw [k38] at hel
    have hlm : len ≤ m := by rw [hmm]; split <;> omega
    by_cases hl0 : len = 0
    · subst hl0
      exact ⟨[], ⟨some a, cap, rfl, .inl rfl⟩, by simp⟩
    · obtain ⟨cs0, hc0, _⟩ := hel 0 (by omega)
      obtain ⟨b, o, sp⟩ := a
      obtain ⟨v0, _, _, _, _, _, hz0, _⟩ := opened5 hc0
      have hz : w.cell? ⟨b, o, sp⟩ = some v0 := by simpa [Addr.add] using hz0
      have hsp := spot_of_cell hz
      simp only at hsp
      subst hsp
      have hlt := World.block_lt_of_cell? w _ hz
      have hall : ∀ i, i < len → ∃ t : Tb, ∀ (c : Nat) (u : Value), (encTb t)[c]? = some u → w.cell? ⟨b, o + i * 5 + c, none⟩ = some u := fun i hi => by
        obtain ⟨cs', h1, h2⟩ := hel i (by omega)
        rw [Addr.add_lit] at h1
        exact open_tab h1 h2
      obtain ⟨f, hf⟩ := Go.Deep.choose_lt hall
      refine ⟨(List.range len).map f, ⟨some ⟨b, o, none⟩, cap, by simp, .inr ⟨b, o, rfl, hlt, fun i y hy => ?_⟩⟩, by simp; omega⟩
      simp only [List.getElem?_map, Option.map_eq_some_iff] at hy
      obtain ⟨j, hj, rfl⟩ := hy
      have hil : i < len := by have := (List.getElem?_eq_some_iff.1 hj).1; simpa using this
      rw [List.getElem?_range hil] at hj
      cases hj
      exact hf i hil

/-- An edit in memory, with the bounds that a machine sets. -/
def EdOk (w : World) (b o : Nat) (e : EdD) : Prop := ∃ av dv, EdAt w b o av dv e ∧ e.add.length ≤ maxLen

theorem open_edit {b o : Nat} {cs : List Value} {n : Nat} {x : DataW H × List MemPlace} (hc : w.cells? base ⟨b, o, none⟩ 5 = some cs) (h : DataW.trod enc Tryd.prog w base spare held n 31 cs = some x) : ∃ e : EdD, EdOk w b o e := by
  obtain ⟨xs, m, _, _, hl, hlen, hf⟩ := DataW.trod_struct Tryd.underlying31 h
  obtain ⟨v0, v1, v2, v3, v4, rfl, c0, c1, c2, c3, c4⟩ := opened5 hc
  rw [Addr.add_lit] at c1 c2 c3 c4
  have k3 : Tryd.prog.cellsOf 3 = 1 := by kernel_rfl
  have kT : Tryd.prog.cellsOf 24 = 1 := by kernel_rfl
  have kI : Tryd.prog.cellsOf 29 = 1 := by kernel_rfl
  have kU : Tryd.prog.cellsOf 25 = 1 := by kernel_rfl
  match xs, hlen with
  | [y0, y1, y2, y3, y4], _ =>
    have f0 : DataW.trod enc Tryd.prog w base spare held m 24 [v0] = some y0 := by have h7 := hf 0 _ rfl; simpa [kT] using h7
    have f1 : DataW.trod enc Tryd.prog w base spare held m 29 [v1] = some y1 := by have h7 := hf 1 _ rfl; simpa [kT, kI] using h7
    have f2 : DataW.trod enc Tryd.prog w base spare held m 25 [v2] = some y2 := by have h7 := hf 2 _ rfl; simpa [kT, kI, kU] using h7
    have f3 : DataW.trod enc Tryd.prog w base spare held m 3 [v3] = some y3 := by have h7 := hf 3 _ rfl; simpa [kT, kI, kU, k3] using h7
    have f4 : DataW.trod enc Tryd.prog w base spare held m 3 [v4] = some y4 := by have h7 := hf 4 _ rfl; simpa [kT, kI, kU, k3] using h7
    obtain ⟨n2, e2, _⟩ := DataW.trod_int Tryd.underlying25 f2
    obtain ⟨n3, e3, _⟩ := DataW.trod_int Tryd.underlying3 f3
    obtain ⟨n4, e4, _⟩ := DataW.trod_int Tryd.underlying3 f4
    simp only [List.cons.injEq, and_true] at e2 e3 e4
    subst e2 e3 e4
    obtain ⟨ts, hts, htl⟩ := open_tabs f0
    obtain ⟨ks, hks, hkl⟩ := open_drop f1
    exact ⟨⟨ts, ks, n2, n3, n4⟩, v0, v1, ⟨c0, c1, c2, c3, c4, hts, hks⟩, htl⟩

theorem open_edits {v : Value} {fuel : Nat} {x : DataW H × List MemPlace} (h : DataW.trod enc Tryd.prog w base spare held fuel 22 [v] = some x) : ∃ es, Edits w v es ∧ es.length ≤ maxLen ∧ ∀ e ∈ es, e.add.length ≤ maxLen := by
  have k31 : Tryd.prog.cellsOf 31 = 5 := by kernel_rfl
  rcases Go.Deep.open_slice Tryd.underlying22 h with ⟨hcs, _⟩ | ⟨a, len, cap, m, n, D, Pl, hcs, _, hl, hm, hmm, _, hel⟩
  · simp only [List.cons.injEq, and_true] at hcs
    exact ⟨[], ⟨none, 0, by rw [hcs]; rfl, .inl rfl⟩, by simp, by simp⟩
  · simp only [List.cons.injEq, and_true] at hcs
    subst hcs
    rw [k31] at hel
    have hlm : len ≤ m := by rw [hmm]; split <;> omega
    by_cases hl0 : len = 0
    · subst hl0
      exact ⟨[], ⟨some a, cap, rfl, .inl rfl⟩, by simp, by simp⟩
    · obtain ⟨cs0, hc0, _⟩ := hel 0 (by omega)
      obtain ⟨b, o, sp⟩ := a
      obtain ⟨v0, _, _, _, _, _, hz0, _⟩ := opened5 hc0
      have hz : w.cell? ⟨b, o, sp⟩ = some v0 := by simpa [Addr.add] using hz0
      have hsp := spot_of_cell hz
      simp only at hsp
      subst hsp
      have hlt := World.block_lt_of_cell? w _ hz
      have hall : ∀ i, i < len → ∃ e : EdD, EdOk w b (o + i * 5) e := fun i hi => by
        obtain ⟨cs', h1, h2⟩ := hel i (by omega)
        rw [Addr.add_lit] at h1
        exact open_edit h1 h2
      have : Inhabited EdD := ⟨⟨[], [], 0, 0, 0⟩⟩
      obtain ⟨f, hf⟩ := Go.Deep.choose_lt hall
      refine ⟨(List.range len).map f, ⟨some ⟨b, o, none⟩, cap, by simp, .inr ⟨b, o, rfl, hlt, fun i y hy => ?_⟩⟩, by simp; omega, fun e he => ?_⟩
      · simp only [List.getElem?_map, Option.map_eq_some_iff] at hy
        obtain ⟨j, hj, rfl⟩ := hy
        have hil : i < len := by have := (List.getElem?_eq_some_iff.1 hj).1; simpa using this
        rw [List.getElem?_range hil] at hj
        cases hj
        obtain ⟨av, dv, h1, _⟩ := hf i hil
        exact ⟨av, dv, h1⟩
      · simp only [List.mem_map, List.mem_range] at he
        obtain ⟨i, hi, rfl⟩ := he
        obtain ⟨_, _, _, h1⟩ := hf i hi
        exact h1
end
end Go.Proofs.YtpdbjmodgiokmaaDoor
