/- A slice of acts that came in, opened: each act's cells, its receivers, its bytes; no condition. -/
import Derived.Test.YtbanfilgokideaaN13
import Derived.Deep.Slices
import Derived.Lib.SmallJoins
namespace Go.Proofs.Ytbanfilgokideaa
open Go.ChangeShapes Go.WideShapes Go.ChangeAt Go.RowKit Go.Gl

section
variable {H : Type} {enc : TypeId × Value → H} {w : World} {base : Nat} {spare : Nat → Bool} {held : Bool}

theorem spot_of_cell {w : World} {a : Addr} {v : Value} (h : w.cell? a = some v) : a.spot = none := by
  unfold World.cell? at h
  split at h
  · cases hs : a.spot with
    | none => rfl
    | some s => simp [hs] at h
  · cases h

theorem cells6 {a : Addr} {cs : List Value} (h : w.cells? base a 6 = some cs) : ∃ v0 v1 v2 v3 v4 v5, cs = [v0, v1, v2, v3, v4, v5] ∧ w.cell? a = some v0 ∧ w.cell? (a.add 1) = some v1 ∧ w.cell? (a.add 2) = some v2 ∧ w.cell? (a.add 3) = some v3 ∧ w.cell? (a.add 4) = some v4 ∧ w.cell? (a.add 5) = some v5 := by
  unfold World.cells? at h
  split at h
  · have e : List.range 6 = [0, 1, 2, 3, 4, 5] := rfl
    rw [e] at h
    simp only [List.mapM_cons, List.mapM_nil, Option.bind_eq_bind, Option.bind_eq_some_iff, Option.pure_def, Option.some.injEq] at h
    obtain ⟨v0, h0, _, ⟨v1, h1, _, ⟨v2, h2, _, ⟨v3, h3, _, ⟨v4, h4, _, ⟨v5, h5, _, rfl, rfl⟩, rfl⟩, rfl⟩, rfl⟩, rfl⟩, rfl⟩ := h
    exact ⟨v0, v1, v2, v3, v4, v5, rfl, by simpa [Addr.add] using h0, h1, h2, h3, h4, h5⟩
  · cases h

theorem open_ints_slice {v : Value} {fuel : Nat} {x : DataW H × List MemPlace} (h : DataW.trod enc Try.prog w base spare held fuel 37 [v] = some x) : ∃ ks, Ints w v ks ∧ ks.length ≤ maxLen := by
  rcases open_ints Try.underlying37 Try.underlying3 (by kernel_rfl) h with ⟨hcs, _⟩ | ⟨a, l, c, zs, hcs, _, hl, hm, hz, _, hcell, hwz⟩
  · simp only [List.cons.injEq, and_true] at hcs
    exact ⟨[], ⟨none, 0, by rw [hcs]; rfl, .inl rfl⟩, by simp⟩
  · simp only [List.cons.injEq, and_true] at hcs
    subst hcs
    have hzl : l ≤ zs.length := by rw [hz]; split <;> omega
    by_cases hl0 : l = 0
    · subst hl0
      exact ⟨[], ⟨some a, c, rfl, .inl rfl⟩, by simp⟩
    · have h0 := hcell 0 (by omega)
      have hsp := spot_of_cell h0
      obtain ⟨b, o, sp⟩ := a
      simp only [Addr.add, if_true] at hsp
      subst hsp
      have hlt := World.block_lt_of_cell? w _ h0
      rw [Addr.add_lit] at hlt
      have e : (zs.take l).length = l := by simp; omega
      refine ⟨zs.take l, ⟨some ⟨b, o, none⟩, c, by rw [e], .inr ⟨b, o, rfl, hlt, fun j k hk => ?_⟩⟩, by rw [e]; omega⟩
      rw [List.getElem?_take] at hk
      split at hk
      · have h1 := hcell j (by omega)
        rw [Addr.add_lit] at h1
        rw [h1]
        simp [List.getD, hk]
      · cases hk

theorem open_bytes_slice {v : Value} {fuel : Nat} {x : DataW H × List MemPlace} (h : DataW.trod enc Try.prog w base spare held fuel 22 [v] = some x) : ∃ l : List UInt8, BytesW w v l ∧ l.length ≤ maxLen := by
  rcases open_ints Try.underlying22 Try.underlying5 (by kernel_rfl) h with ⟨hcs, _⟩ | ⟨a, l, c, zs, hcs, _, hl, hm, hz, _, hcell, hwz⟩
  · simp only [List.cons.injEq, and_true] at hcs
    exact ⟨[], ⟨none, 0, by rw [hcs]; rfl, .inl rfl⟩, by simp⟩
  · simp only [List.cons.injEq, and_true] at hcs
    subst hcs
    have hzl : l ≤ zs.length := by rw [hz]; split <;> omega
    by_cases hl0 : l = 0
    · subst hl0
      exact ⟨[], ⟨some a, c, rfl, .inl rfl⟩, by simp⟩
    · have h0 := hcell 0 (by omega)
      have hsp := spot_of_cell h0
      obtain ⟨b, o, sp⟩ := a
      simp only [Addr.add, if_true] at hsp
      subst hsp
      have hlt := World.block_lt_of_cell? w _ h0
      rw [Addr.add_lit] at hlt
      have e : ((zs.take l).map fun n => UInt8.ofNat n.toNat).length = l := by simp; omega
      refine ⟨(zs.take l).map fun n => UInt8.ofNat n.toNat, ⟨some ⟨b, o, none⟩, c, by rw [e], .inr ⟨b, o, rfl, hlt, fun j k hk => ?_⟩⟩, by rw [e]; omega⟩
      simp only [List.getElem?_map, Option.map_eq_some_iff] at hk
      obtain ⟨n, hn, rfl⟩ := hk
      rw [List.getElem?_take] at hn
      split at hn
      · have h1 := hcell j (by omega)
        rw [Addr.add_lit] at h1
        rw [h1]
        have h2 : zs.getD j 0 = n := by simp [List.getD, hn]
        rw [h2]
        have h3 := hwz n (List.mem_of_getElem? hn)
        simp only [Lit.wf, Bool.and_eq_true, decide_eq_true_eq] at h3
        have h4 : (0 : Int) ≤ n ∧ n ≤ 255 := h3
        congr 2
        rw [UInt8.toNat_ofNat_of_lt' (by simp [UInt8.size]; omega)]
        omega
      · cases hn

theorem open_act {b o : Nat} {cs : List Value} {n : Nat} {x : DataW H × List MemPlace} (hc : w.cells? base ⟨b, o, none⟩ 6 = some cs) (h : DataW.trod enc Try.prog w base spare held n 39 cs = some x) : ∃ a : ActD, ActAt w b o a := by
  obtain ⟨xs, m, _, _, hl, hlen, hf⟩ := DataW.trod_struct Try.underlying39 h
  obtain ⟨v0, v1, v2, v3, v4, v5, rfl, c0, c1, c2, c3, c4, c5⟩ := cells6 hc
  rw [Addr.add_lit] at c1 c2 c3 c4 c5
  have k3 : Try.prog.cellsOf 3 = 1 := by kernel_rfl
  have k37 : Try.prog.cellsOf 37 = 1 := by kernel_rfl
  have k22 : Try.prog.cellsOf 22 = 1 := by kernel_rfl
  match xs, hlen with
  | [y0, y1, y2, y3, y4, y5], _ =>
    have f0 : DataW.trod enc Try.prog w base spare held m 3 [v0] = some y0 := by have h7 := hf 0 _ rfl; simpa [k3] using h7
    have f1 : DataW.trod enc Try.prog w base spare held m 3 [v1] = some y1 := by have h7 := hf 1 _ rfl; simpa [k3] using h7
    have f2 : DataW.trod enc Try.prog w base spare held m 3 [v2] = some y2 := by have h7 := hf 2 _ rfl; simpa [k3] using h7
    have f3 : DataW.trod enc Try.prog w base spare held m 3 [v3] = some y3 := by have h7 := hf 3 _ rfl; simpa [k3] using h7
    have f4 : DataW.trod enc Try.prog w base spare held m 37 [v4] = some y4 := by have h7 := hf 4 _ rfl; simpa [k37] using h7
    have f5 : DataW.trod enc Try.prog w base spare held m 22 [v5] = some y5 := by have h7 := hf 5 _ rfl; simpa [k22] using h7
    obtain ⟨n0, e0, _⟩ := DataW.trod_int Try.underlying3 f0
    obtain ⟨n1, e1, _⟩ := DataW.trod_int Try.underlying3 f1
    obtain ⟨n2, e2, _⟩ := DataW.trod_int Try.underlying3 f2
    obtain ⟨n3, e3, _⟩ := DataW.trod_int Try.underlying3 f3
    simp only [List.cons.injEq, and_true] at e0 e1 e2 e3
    subst e0 e1 e2 e3
    obtain ⟨ks, hks, hkl⟩ := open_ints_slice f4
    obtain ⟨l, hb, hbl⟩ := open_bytes_slice f5
    refine ⟨⟨n0, n1, n2, n3, v4, ks, v5, l.length, l⟩, ⟨c0, c1, c2, c3, c4, c5, hks, ?_, hkl, hbl, hb, rfl⟩⟩
    obtain ⟨a, c, hv, _⟩ := hb
    exact ⟨a, c, hv⟩

theorem open_acts {v : Value} {fuel : Nat} {x : DataW H × List MemPlace} (h : DataW.trod enc Try.prog w base spare held fuel 35 [v] = some x) : ∃ xs, ActsAt w v xs ∧ xs.length ≤ maxLen := by
  have k39 : Try.prog.cellsOf 39 = 6 := by kernel_rfl
  rcases Go.Deep.open_slice Try.underlying35 h with ⟨hcs, _⟩ | ⟨a, len, cap, m, n, D, Pl, hcs, _, hl, hm, hmm, _, hel⟩
  · simp only [List.cons.injEq, and_true] at hcs
    exact ⟨[], ⟨none, 0, by rw [hcs]; rfl, .inl rfl⟩, by simp⟩
  · simp only [List.cons.injEq, and_true] at hcs
    subst hcs
    rw [k39] at hel
    have hlm : len ≤ m := by rw [hmm]; split <;> omega
    by_cases hl0 : len = 0
    · subst hl0
      exact ⟨[], ⟨some a, cap, rfl, .inl rfl⟩, by simp⟩
    · obtain ⟨cs0, hc0, _⟩ := hel 0 (by omega)
      obtain ⟨b, o, sp⟩ := a
      obtain ⟨v0, _, _, _, _, _, _, hz0, _⟩ := cells6 hc0
      have hz : w.cell? ⟨b, o, sp⟩ = some v0 := by simpa [Addr.add] using hz0
      have hsp := spot_of_cell hz
      simp only at hsp
      subst hsp
      have hlt := World.block_lt_of_cell? w _ hz
      have hall : ∀ i, i < len → ∃ a : ActD, ActAt w b (o + i * 6) a := fun i hi => by
        obtain ⟨cs', h1, h2⟩ := hel i (by omega)
        rw [Addr.add_lit] at h1
        exact open_act h1 h2
      have : Inhabited ActD := ⟨⟨0, 0, 0, 0, .nilIface, [], .nilIface, 0, []⟩⟩
      obtain ⟨f, hf⟩ := Go.Deep.choose_lt hall
      refine ⟨(List.range len).map f, ⟨some ⟨b, o, none⟩, cap, by simp, .inr ⟨b, o, rfl, hlt, fun i y hy => ?_⟩⟩, by simp; omega⟩
      simp only [List.getElem?_map, Option.map_eq_some_iff] at hy
      obtain ⟨j, hj, rfl⟩ := hy
      have hil : i < len := by have := (List.getElem?_eq_some_iff.1 hj).1; simpa using this
      rw [List.getElem?_range hil] at hj
      cases hj
      exact hf i hil
end
end Go.Proofs.Ytbanfilgokideaa
