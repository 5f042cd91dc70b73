/- Merged out of KN: helpers. -/
import Derived.Test.YtejpcoghkgjanaaGreatDoorVU
import Derived.Test.YtejpcoghkgjanaaGreatDoorVL
import Derived.Test.YtejpcoghkgjanaaGreatDoorRows
import Derived.ProofKit
/- The law's arguments, opened; the bulk of the keys. -/
namespace Go.Proofs.YtejpcoghkgjanaaGreatDoor
open Go.ChangeShapes Go.WideShapes Go.ChangeAt Go.RowKit Go.Gl Go.Wal Mn

def Ov (w : World) (v : Value) (bs : List Bool) : Prop :=
  ∃ a c, v = .slice a bs.length c ∧ bs.length ≤ maxLen ∧ (bs = [] ∨ ∃ b o, a = some ⟨b, o, none⟩ ∧ b < w.heap.size ∧ ∀ (j : Nat) (x : Bool), bs[j]? = some x → w.cell? ⟨b, o + j, none⟩ = some (.bool x))

theorem Ov.slice {w : World} {v : Value} {bs : List Bool} (h : Ov w v bs) : ∃ a c, v = .slice a bs.length c := by
  obtain ⟨a, c, h, _⟩ := h; exact ⟨a, c, h⟩

theorem Ov.grow {w w' : World} {v : Value} {bs : List Bool} (h : Ov w v bs) (hg : Grow w w') : Ov w' v bs := by
  obtain ⟨a, c, hv, hm, h⟩ := h
  refine ⟨a, c, hv, hm, ?_⟩
  rcases h with h | ⟨b, o, ha, hb, hc⟩
  · exact .inl h
  · exact .inr ⟨b, o, ha, Nat.lt_of_lt_of_le hb hg.size, fun j x hx => by rw [Grow.cells _ _ _ hg hb]; exact hc j x hx⟩

theorem Ov.at {w : World} {a : Option Addr} {n c i : Nat} {bs : List Bool} (h : Ov w (.slice a n c) bs) (hi : i < bs.length) : ∃ b o, a = some ⟨b, o, none⟩ ∧ b < w.heap.size ∧ w.cell? ⟨b, o + i, none⟩ = some (.bool bs[i]) := by
  obtain ⟨a', c', he, hm, h⟩ := h
  cases he
  rcases h with rfl | ⟨b, o, rfl, hb, hc⟩
  · cases hi
  · exact ⟨b, o, rfl, hb, hc i bs[i] (by simp [hi])⟩

section
variable {H : Type} {enc : TypeId × Value → H} {w : World} {base : Nat} {spare : Nat → Bool} {held : Bool}

theorem opened1 {a : Addr} {cs : List Value} (h : w.cells? base a 1 = some cs) : ∃ v0, cs = [v0] ∧ w.cell? a = some v0 := by
  unfold World.cells? at h
  split at h
  · have e : List.range 1 = [0] := rfl
    rw [e] at h
    simp only [List.mapM_cons, List.mapM_nil, Option.bind_eq_bind, Option.bind_eq_some_iff, Option.pure_def, Option.some.injEq] at h
    obtain ⟨v0, h0, _, rfl, rfl⟩ := h
    exact ⟨v0, rfl, by simpa [Addr.add] using h0⟩
  · cases h

theorem open_n {v : Value} {fuel : Nat} {x : DataW H × List MemPlace} (h : DataW.trod enc Tryz.prog w base spare held fuel 24 [v] = some x) : ∃ ks, Iv w v ks := by
  rcases open_ints Tryz.underlying24 Tryz.underlying3 (by kernel_rfl) h with ⟨hcs, _⟩ | ⟨a, l, c, zs, hcs, _, hl, hm, hz, _, hcell, hwz⟩
  · simp only [List.cons.injEq, and_true] at hcs
    exact ⟨[], none, 0, by rw [hcs]; rfl, Nat.zero_le _, .inl rfl⟩
  · simp only [List.cons.injEq, and_true] at hcs
    subst hcs
    have hzl : l ≤ zs.length := by rw [hz]; split <;> omega
    by_cases hl0 : l = 0
    · subst hl0
      exact ⟨[], some a, c, rfl, Nat.zero_le _, .inl rfl⟩
    · have h0 := hcell 0 (by omega)
      have hsp := spot_of_cell h0
      obtain ⟨b, o, sp⟩ := a
      simp only [Addr.add, if_true] at hsp
      subst hsp
      have hlt := World.block_lt_of_cell? w _ h0
      rw [Addr.add_lit] at hlt
      have e : (zs.take l).length = l := by simp; omega
      refine ⟨zs.take l, some ⟨b, o, none⟩, c, by rw [e], by rw [e]; omega, .inr ⟨b, o, rfl, hlt, fun j k hk => ?_⟩⟩
      rw [List.getElem?_take] at hk
      split at hk
      · have h1 := hcell j (by omega)
        rw [Addr.add_lit] at h1
        rw [h1]
        simp [List.getD, hk]
      · cases hk

theorem open_o {v : Value} {fuel : Nat} {x : DataW H × List MemPlace} (h : DataW.trod enc Tryz.prog w base spare held fuel 23 [v] = some x) : ∃ bs, Ov w v bs := by
  have k1 : Tryz.prog.cellsOf 4 = 1 := by kernel_rfl
  rcases Go.Deep.open_slice Tryz.underlying23 h with ⟨hcs, _⟩ | ⟨a, len, cap, m, n, D, Pl, hcs, _, hl, hm, hmm, _, hel⟩
  · simp only [List.cons.injEq, and_true] at hcs
    subst hcs
    exact ⟨[], none, 0, rfl, Nat.zero_le _, .inl rfl⟩
  · simp only [List.cons.injEq, and_true] at hcs
    subst hcs
    rw [k1] at hel
    have hlm : len ≤ m := by rw [hmm]; split <;> omega
    by_cases hl0 : len = 0
    · subst hl0
      exact ⟨[], some a, cap, rfl, Nat.zero_le _, .inl rfl⟩
    · obtain ⟨cs0, hc0, _⟩ := hel 0 (by omega)
      obtain ⟨b, o, sp⟩ := a
      obtain ⟨v0, _, hz0⟩ := opened1 hc0
      have hz : w.cell? ⟨b, o, sp⟩ = some v0 := by simpa [Addr.add] using hz0
      have hsp := spot_of_cell hz
      simp only at hsp
      subst hsp
      have hlt := World.block_lt_of_cell? w _ hz
      have hall : ∀ i, i < len → ∃ t : Bool, w.cell? ⟨b, o + i, none⟩ = some (.bool t) := fun i hi => by
        obtain ⟨cs', h1, h2⟩ := hel i (by omega)
        rw [Addr.add_lit, Nat.mul_one] at h1
        obtain ⟨pv, rfl, h3⟩ := opened1 h1
        obtain ⟨t, e0, _⟩ := DataW.trod_bool Tryz.underlying4 h2
        simp only [List.cons.injEq, and_true] at e0
        exact ⟨t, by rw [h3, e0]⟩
      obtain ⟨f, hf⟩ := Go.Deep.choose_lt hall
      refine ⟨(List.range len).map f, some ⟨b, o, none⟩, cap, by simp, by simp; omega, .inr ⟨b, o, rfl, hlt, fun i y hy => ?_⟩⟩
      simp only [List.getElem?_map, Option.map_eq_some_iff] at hy
      obtain ⟨j, hj, rfl⟩ := hy
      have hil : i < len := by have := (List.getElem?_eq_some_iff.1 hj).1; simpa using this
      rw [List.getElem?_range hil] at hj
      cases hj
      exact hf i hil

theorem bulk_one (d : DataW H) : 1 ≤ Rows.uptoBulk d := by
  cases d with
  | lit l => cases l <;> simp [Rows.uptoBulk]
  | nil => simp [Rows.uptoBulk]
  | ptr d => simp [Rows.uptoBulk]
  | slice elems spare => simp [Rows.uptoBulk]
  | agg parts => simp [Rows.uptoBulk]
  | iface t d => simp [Rows.uptoBulk]
  | map entries => simp [Rows.uptoBulk]
  | held h => simp [Rows.uptoBulk]

theorem bulk_length : ∀ l : List (DataW H), l.length ≤ Rows.uptoBulkAll l
  | [] => Nat.zero_le _
  | x :: r => by have := bulk_one x; have := bulk_length r; simp only [Rows.uptoBulkAll, List.length_cons]; omega

theorem bulk_map (D : Nat → DataW H) (g : Nat → Nat) : ∀ I : List Nat, (∀ i ∈ I, g i ≤ Rows.uptoBulk (D i)) → (I.map g).sum ≤ Rows.uptoBulkAll (I.map D)
  | [], _ => Nat.zero_le _
  | i :: I, h => by
    have h1 := h i (List.mem_cons_self ..)
    have h2 := bulk_map D g I (fun j hj => h j (List.mem_cons_of_mem _ hj))
    simp only [List.map_cons, List.sum_cons, Rows.uptoBulkAll]
    omega

theorem open_tabK {b o : Nat} {cs : List Value} {n : Nat} {x : DataW H × List MemPlace} (hc : w.cells? base ⟨b, o, none⟩ 5 = some cs) (h : DataW.trod enc Tryz.prog w base spare held n 51 cs = some x) : ∃ t : Tb, (∀ (c : Nat) (u : Value), (encTb t)[c]? = some u → w.cell? ⟨b, o + c, none⟩ = some u) ∧ t.first.size + t.last.size ≤ Rows.uptoBulk x.1 := by
  obtain ⟨xs, m, _, hx, hl, hlen, hf⟩ := DataW.trod_struct Tryz.underlying51 h
  obtain ⟨v0, v1, v2, v3, v4, rfl, c0, c1, c2, c3, c4⟩ := opened5 hc
  rw [Addr.add_lit] at c1 c2 c3 c4
  have k3 : Tryz.prog.cellsOf 3 = 1 := by kernel_rfl
  have k9 : Tryz.prog.cellsOf 9 = 1 := by kernel_rfl
  match xs, hlen with
  | [y0, y1, y2, y3, y4], _ =>
    have f0 : DataW.trod enc Tryz.prog w base spare held m 3 [v0] = some y0 := by have h7 := hf 0 _ rfl; simpa [k3] using h7
    have f1 : DataW.trod enc Tryz.prog w base spare held m 3 [v1] = some y1 := by have h7 := hf 1 _ rfl; simpa [k3] using h7
    have f2 : DataW.trod enc Tryz.prog w base spare held m 9 [v2] = some y2 := by have h7 := hf 2 _ rfl; simpa [k3, k9] using h7
    have f3 : DataW.trod enc Tryz.prog w base spare held m 9 [v3] = some y3 := by have h7 := hf 3 _ rfl; simpa [k3, k9] using h7
    have f4 : DataW.trod enc Tryz.prog w base spare held m 3 [v4] = some y4 := by have h7 := hf 4 _ rfl; simpa [k3, k9] using h7
    obtain ⟨n0, e0, _⟩ := DataW.trod_int Tryz.underlying3 f0
    obtain ⟨n1, e1, _⟩ := DataW.trod_int Tryz.underlying3 f1
    obtain ⟨s2, e2, q2, _⟩ := DataW.trod_string Tryz.underlying9 f2
    obtain ⟨s3, e3, q3, _⟩ := DataW.trod_string Tryz.underlying9 f3
    obtain ⟨n4, e4, _⟩ := DataW.trod_int Tryz.underlying3 f4
    simp only [List.cons.injEq, and_true] at e0 e1 e2 e3 e4
    subst e0 e1 e2 e3 e4
    refine ⟨⟨n0, n1, s2, s3, n4⟩, fun c u hu => ?_, ?_⟩
    rotate_left
    · rw [hx, q2, q3]
      have z2 : s2.data.toList.length = s2.size := by rw [Array.length_toList]; rfl
      have z3 : s3.data.toList.length = s3.size := by rw [Array.length_toList]; rfl
      simp only [Rows.uptoBulk, Rows.uptoBulkAll, List.map_cons, List.map_nil, z2, z3]
      omega
    match c, hu with
    | 0, hu => cases hu; exact c0
    | 1, hu => cases hu; exact c1
    | 2, hu => cases hu; exact c2
    | 3, hu => cases hu; exact c3
    | 4, hu => cases hu; exact c4
    | c + 5, hu => simp [encTb] at hu

theorem open_tabsK {v : Value} {fuel : Nat} {x : DataW H × List MemPlace} (h : DataW.trod enc Tryz.prog w base spare held fuel 35 [v] = some x) : ∃ l, Tabs w v l ∧ l.length ≤ maxLen ∧ keyN l ≤ Rows.uptoBulk x.1 := by
  have k38 : Tryz.prog.cellsOf 51 = 5 := by kernel_rfl
  rcases Go.Deep.open_slice Tryz.underlying35 h with ⟨hcs, _⟩ | ⟨a, len, cap, m, n, D, Pl, hcs, _, hl, hm, hmm, hx, hel⟩
  · simp only [List.cons.injEq, and_true] at hcs
    exact ⟨[], ⟨none, 0, by rw [hcs]; rfl, .inl rfl⟩, by simp, Nat.zero_le _⟩
  · simp only [List.cons.injEq, and_true] at hcs
    subst hcs
    rw [k38] at hel
    have hlm : len ≤ m := by rw [hmm]; split <;> omega
    by_cases hl0 : len = 0
    · subst hl0
      exact ⟨[], ⟨some a, cap, rfl, .inl rfl⟩, by simp, Nat.zero_le _⟩
    · obtain ⟨cs0, hc0, _⟩ := hel 0 (by omega)
      obtain ⟨b, o, sp⟩ := a
      obtain ⟨v0, _, _, _, _, _, hz0, _⟩ := opened5 hc0
      have hz : w.cell? ⟨b, o, sp⟩ = some v0 := by simpa [Addr.add] using hz0
      have hsp := spot_of_cell hz
      simp only at hsp
      subst hsp
      have hlt := World.block_lt_of_cell? w _ hz
      have hall : ∀ i, i < len → ∃ t : Tb, (∀ (c : Nat) (u : Value), (encTb t)[c]? = some u → w.cell? ⟨b, o + i * 5 + c, none⟩ = some u) ∧ t.first.size + t.last.size ≤ Rows.uptoBulk (D i) := fun i hi => by
        obtain ⟨cs', h1, h2⟩ := hel i (by omega)
        rw [Addr.add_lit] at h1
        exact open_tabK h1 h2
      obtain ⟨f, hf⟩ := Go.Deep.choose_lt hall
      refine ⟨(List.range len).map f, ⟨some ⟨b, o, none⟩, cap, by simp, .inr ⟨b, o, rfl, hlt, fun i y hy => ?_⟩⟩, by simp; omega, ?_⟩
      rotate_left
      · have h1 := bulk_map D (fun i => (f i).first.size + (f i).last.size) (List.range len) (fun i hi => (hf i (by simpa using hi)).2)
        rw [hx]
        unfold keyN
        rw [List.map_map]
        simp only [Rows.uptoBulk]
        have h2 : ((List.range len).map ((fun t : Tb => t.first.size + t.last.size) ∘ f)).sum = ((List.range len).map fun i => (f i).first.size + (f i).last.size).sum := rfl
        omega
      simp only [List.getElem?_map, Option.map_eq_some_iff] at hy
      obtain ⟨j, hj, rfl⟩ := hy
      have hil : i < len := by have := (List.getElem?_eq_some_iff.1 hj).1; simpa using this
      rw [List.getElem?_range hil] at hj
      cases hj
      exact (hf i hil).1

def EdOkK (w : World) (b o : Nat) (e : EdD) : Prop := ∃ av dv, EdAt w b o av dv e ∧ e.add.length ≤ maxLen ∧ 0 ≤ e.seq ∧ e.seq < 18446744073709551616

theorem open_editK {b o : Nat} {cs : List Value} {n : Nat} {x : DataW H × List MemPlace} (hc : w.cells? base ⟨b, o, none⟩ 5 = some cs) (h : DataW.trod enc Tryz.prog w base spare held n 41 cs = some x) : ∃ e : EdD, EdOkK w b o e ∧ keyN e.add ≤ Rows.uptoBulk x.1 := by
  obtain ⟨xs, m, _, hx, hl, hlen, hf⟩ := DataW.trod_struct Tryz.underlying41 h
  obtain ⟨v0, v1, v2, v3, v4, rfl, c0, c1, c2, c3, c4⟩ := opened5 hc
  rw [Addr.add_lit] at c1 c2 c3 c4
  have k3 : Tryz.prog.cellsOf 3 = 1 := by kernel_rfl
  have kT : Tryz.prog.cellsOf 35 = 1 := by kernel_rfl
  have kI : Tryz.prog.cellsOf 24 = 1 := by kernel_rfl
  have kU : Tryz.prog.cellsOf 36 = 1 := by kernel_rfl
  match xs, hlen with
  | [y0, y1, y2, y3, y4], _ =>
    have f0 : DataW.trod enc Tryz.prog w base spare held m 35 [v0] = some y0 := by have h7 := hf 0 _ rfl; simpa [kT] using h7
    have f1 : DataW.trod enc Tryz.prog w base spare held m 24 [v1] = some y1 := by have h7 := hf 1 _ rfl; simpa [kT, kI] using h7
    have f2 : DataW.trod enc Tryz.prog w base spare held m 36 [v2] = some y2 := by have h7 := hf 2 _ rfl; simpa [kT, kI, kU] using h7
    have f3 : DataW.trod enc Tryz.prog w base spare held m 3 [v3] = some y3 := by have h7 := hf 3 _ rfl; simpa [kT, kI, kU, k3] using h7
    have f4 : DataW.trod enc Tryz.prog w base spare held m 3 [v4] = some y4 := by have h7 := hf 4 _ rfl; simpa [kT, kI, kU, k3] using h7
    obtain ⟨n2, e2, _, hw2⟩ := DataW.trod_int Tryz.underlying36 f2
    obtain ⟨n3, e3, _⟩ := DataW.trod_int Tryz.underlying3 f3
    obtain ⟨n4, e4, _⟩ := DataW.trod_int Tryz.underlying3 f4
    simp only [List.cons.injEq, and_true] at e2 e3 e4
    subst e2 e3 e4
    obtain ⟨ts, hts, htl, htk⟩ := open_tabsK f0
    obtain ⟨ks, hks, hkl⟩ := open_drop f1
    simp only [Lit.wf, Bool.and_eq_true, decide_eq_true_eq] at hw2
    have h4 : (0 : Int) ≤ n2 ∧ n2 ≤ 18446744073709551615 := hw2
    refine ⟨⟨ts, ks, n2, n3, n4⟩, ⟨v0, v1, ⟨c0, c1, c2, c3, c4, hts, hks⟩, htl, h4.1, by show n2 < _; omega⟩, ?_⟩
    rw [hx]
    simp only [Rows.uptoBulk, Rows.uptoBulkAll, List.map_cons, List.map_nil]
    omega

theorem open_editsK {v : Value} {fuel : Nat} {x : DataW H × List MemPlace} (h : DataW.trod enc Tryz.prog w base spare held fuel 22 [v] = some x) : ∃ es, Edits w v es ∧ es.length ≤ maxLen ∧ ∀ e ∈ es, e.add.length ≤ maxLen ∧ (0 ≤ e.seq ∧ e.seq < 18446744073709551616) ∧ keyN e.add ≤ Rows.uptoBulk x.1 := by
  have k31 : Tryz.prog.cellsOf 41 = 5 := by kernel_rfl
  rcases Go.Deep.open_slice Tryz.underlying22 h with ⟨hcs, _⟩ | ⟨a, len, cap, m, n, D, Pl, hcs, _, hl, hm, hmm, hx, hel⟩
  · simp only [List.cons.injEq, and_true] at hcs
    exact ⟨[], ⟨none, 0, by rw [hcs]; rfl, .inl rfl⟩, by simp, by simp⟩
  · simp only [List.cons.injEq, and_true] at hcs
    subst hcs
    rw [k31] at hel
    have hlm : len ≤ m := by rw [hmm]; split <;> omega
    by_cases hl0 : len = 0
    · subst hl0
      exact ⟨[], ⟨some a, cap, rfl, .inl rfl⟩, by simp, by simp⟩
    · obtain ⟨cs0, hc0, _⟩ := hel 0 (by omega)
      obtain ⟨b, o, sp⟩ := a
      obtain ⟨v0, _, _, _, _, _, hz0, _⟩ := opened5 hc0
      have hz : w.cell? ⟨b, o, sp⟩ = some v0 := by simpa [Addr.add] using hz0
      have hsp := spot_of_cell hz
      simp only at hsp
      subst hsp
      have hlt := World.block_lt_of_cell? w _ hz
      have hall : ∀ i, i < len → ∃ e : EdD, EdOkK w b (o + i * 5) e ∧ keyN e.add ≤ Rows.uptoBulk (D i) := fun i hi => by
        obtain ⟨cs', h1, h2⟩ := hel i (by omega)
        rw [Addr.add_lit] at h1
        exact open_editK h1 h2
      have : Inhabited EdD := ⟨⟨[], [], 0, 0, 0⟩⟩
      obtain ⟨f, hf⟩ := Go.Deep.choose_lt hall
      refine ⟨(List.range len).map f, ⟨some ⟨b, o, none⟩, cap, by simp, .inr ⟨b, o, rfl, hlt, fun i y hy => ?_⟩⟩, by simp; omega, fun e he => ?_⟩
      · simp only [List.getElem?_map, Option.map_eq_some_iff] at hy
        obtain ⟨j, hj, rfl⟩ := hy
        have hil : i < len := by have := (List.getElem?_eq_some_iff.1 hj).1; simpa using this
        rw [List.getElem?_range hil] at hj
        cases hj
        obtain ⟨⟨av, dv, h1, _⟩, _⟩ := hf i hil
        exact ⟨av, dv, h1⟩
      · simp only [List.mem_map, List.mem_range] at he
        obtain ⟨i, hi, rfl⟩ := he
        obtain ⟨⟨_, _, _, h1, h2, h3⟩, h4⟩ := hf i hi
        have h5 := bulk_map D (fun i => keyN (f i).add) (List.range len) (fun i hi => (hf i (by simpa using hi)).2)
        have h6 := le_sum_mem (List.mem_map.2 ⟨i, List.mem_range.2 hi, rfl⟩ : keyN (f i).add ∈ (List.range len).map (fun i => keyN (f i).add))
        rw [hx]
        simp only [Rows.uptoBulk]
        exact ⟨h1, ⟨h2, h3⟩, by omega⟩
end
end Go.Proofs.YtejpcoghkgjanaaGreatDoor
