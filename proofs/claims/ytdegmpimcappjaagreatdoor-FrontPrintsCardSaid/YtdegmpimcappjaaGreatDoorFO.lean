/- Merged out of O1, O2: helpers. -/
import Derived.Test.YtdegmpimcappjaaGreatDoorFI
import Derived.Test.YtdegmpimcappjaaGreatDoorFR
import Derived.Deep.Slices
import Derived.Lib.SmallJoins
import Derived.ProofKit
import Derived.WideShapes
import Derived.Shelf.Vars
import Derived.Stop.LaidErr
import Derived.MakeChecks
/- What came in, opened: rows of bytes, of numbers, of texts; operations, results. -/
namespace Go.Proofs.YtdegmpimcappjaaGreatDoor
open Go.ChangeShapes Go.WideShapes Go.ChangeAt Go.RowKit Go.Gl Go.Front

section
variable {H : Type} {enc : TypeId × Value → H} {w : World} {base : Nat} {spare : Nat → Bool} {held : Bool}

theorem spot_of_cell {w : World} {a : Addr} {v : Value} (h : w.cell? a = some v) : a.spot = none := by
  unfold World.cell? at h
  split at h
  · cases hs : a.spot with
    | none => rfl
    | some s => simp [hs] at h
  · cases h

theorem opened1 {a : Addr} {cs : List Value} (h : w.cells? base a 1 = some cs) : ∃ v0, cs = [v0] ∧ w.cell? a = some v0 := by
  unfold World.cells? at h
  split at h
  · have e : List.range 1 = [0] := rfl
    rw [e] at h
    simp only [List.mapM_cons, List.mapM_nil, Option.bind_eq_bind, Option.bind_eq_some_iff, Option.pure_def, Option.some.injEq] at h
    obtain ⟨v0, h0, _, rfl, rfl⟩ := h
    exact ⟨v0, rfl, by simpa [Addr.add] using h0⟩
  · cases h

theorem open_b {v : Value} {fuel : Nat} {x : DataW H × List MemPlace} (h : DataW.trod enc Tryz.prog w base spare held fuel 24 [v] = some x) : ∃ l : List UInt8, Bv w v l := by
  rcases open_ints Tryz.underlying24 Tryz.underlying5 (by kernel_rfl) h with ⟨hcs, _⟩ | ⟨a, l, c, zs, hcs, _, hl, hm, hz, _, hcell, hwz⟩
  · simp only [List.cons.injEq, and_true] at hcs
    exact ⟨[], none, 0, by rw [hcs]; rfl, Nat.le_refl _, Nat.zero_le _, fun _ => rfl, .inl rfl⟩
  · simp only [List.cons.injEq, and_true] at hcs
    subst hcs
    have hzl : l ≤ zs.length := by rw [hz]; split <;> omega
    by_cases hl0 : l = 0
    · subst hl0
      exact ⟨[], some a, c, rfl, hl, hm, fun h => (by cases h), .inl rfl⟩
    · have h0 := hcell 0 (by omega)
      have hsp := spot_of_cell h0
      obtain ⟨b, o, sp⟩ := a
      simp only [Addr.add, if_true] at hsp
      subst hsp
      have hlt := World.block_lt_of_cell? w _ h0
      rw [Addr.add_lit] at hlt
      have e : ((zs.take l).map fun n => UInt8.ofNat n.toNat).length = l := by simp; omega
      have hcs : ∀ (j : Nat) (k : UInt8), ((zs.take l).map fun n => UInt8.ofNat n.toNat)[j]? = some k → w.cell? ⟨b, o + j, none⟩ = some (.int .u8 k.toNat) := fun j k hk => by
        simp only [List.getElem?_map, Option.map_eq_some_iff] at hk
        obtain ⟨n, hn, rfl⟩ := hk
        rw [List.getElem?_take] at hn
        split at hn
        · have h1 := hcell j (by omega)
          rw [Addr.add_lit] at h1
          rw [h1]
          have h2 : zs.getD j 0 = n := by simp [List.getD, hn]
          rw [h2]
          have h3 := hwz n (List.mem_of_getElem? hn)
          simp only [Lit.wf, Bool.and_eq_true, decide_eq_true_eq] at h3
          have h4 : (0 : Int) ≤ n ∧ n ≤ 255 := h3
          congr 2
          rw [UInt8.toNat_ofNat_of_lt' (by simp [UInt8.size]; omega)]
          omega
        · cases hn
      exact ⟨(zs.take l).map fun n => UInt8.ofNat n.toNat, some ⟨b, o, none⟩, c, by rw [e], by rw [e]; exact hl, hm, fun h => (by cases h), .inr ⟨b, o, rfl, hlt, hcs⟩⟩

theorem open_n {v : Value} {fuel : Nat} {x : DataW H × List MemPlace} (h : DataW.trod enc Tryz.prog w base spare held fuel 23 [v] = some x) : ∃ ks, Iv w v ks ∧ ks.length ≤ 9223372036854775807 := by
  rcases open_ints Tryz.underlying23 Tryz.underlying3 (by kernel_rfl) h with ⟨hcs, _⟩ | ⟨a, l, c, zs, hcs, _, hl, hm, hz, _, hcell, hwz⟩
  · simp only [List.cons.injEq, and_true] at hcs
    exact ⟨[], ⟨none, 0, by rw [hcs]; rfl, .inl rfl⟩, Nat.zero_le _⟩
  · simp only [List.cons.injEq, and_true] at hcs
    subst hcs
    unfold maxLen at hm
    have hzl : l ≤ zs.length := by rw [hz]; split <;> omega
    by_cases hl0 : l = 0
    · subst hl0
      exact ⟨[], ⟨some a, c, rfl, .inl rfl⟩, Nat.zero_le _⟩
    · have h0 := hcell 0 (by omega)
      have hsp := spot_of_cell h0
      obtain ⟨b, o, sp⟩ := a
      simp only [Addr.add, if_true] at hsp
      subst hsp
      have hlt := World.block_lt_of_cell? w _ h0
      rw [Addr.add_lit] at hlt
      have e : (zs.take l).length = l := by simp; omega
      refine ⟨zs.take l, ⟨some ⟨b, o, none⟩, c, by rw [e], .inr ⟨b, o, rfl, hlt, fun j k hk => ?_⟩⟩, by rw [e]; omega⟩
      rw [List.getElem?_take] at hk
      split at hk
      · have h1 := hcell j (by omega)
        rw [Addr.add_lit] at h1
        rw [h1]
        simp [List.getD, hk]
      · cases hk

theorem nat_of_wf {n : Int} (h : (Lit.int .u64 n).wf = true) : ∃ m : Nat, n = m ∧ m < 18446744073709551616 := by
  simp only [Lit.wf, Bool.and_eq_true, decide_eq_true_eq] at h
  have h4 : (0 : Int) ≤ n ∧ n ≤ 18446744073709551615 := h
  exact ⟨n.toNat, by omega, by omega⟩

/-- An operation, but for the package-level variables. -/
structure OpRaw (w : World) (o : OpD) (pv dv : Value) : Prop where
  id : o.id < 18446744073709551616
  up : o.upload < 18446744073709551616
  p : Iv w pv o.parts
  d : Bv w dv o.data
  bk : o.bucket.length ≤ 9223372036854775807
  pl : o.parts.length ≤ 9223372036854775807

theorem OpRaw.op {w : World} {o : OpD} {pv dv : Value} (h : OpRaw w o pv dv) (hb : Base w) : OpIn w o pv dv := ⟨hb, h.id, h.up, h.p, h.d, h.bk, h.pl⟩

set_option maxRecDepth 100000 in
theorem open_op {cs : Array Value} (hsz : cs.size = Tryz.prog.cellsOf 26) {fuel : Nat} {x : DataW H × List MemPlace} (h : DataW.trod enc Tryz.prog w base spare held fuel 26 cs.toList = some x) :
    ∃ o pv dv, cs = #[.int .u64 ((o : OpD).id : Int), .int .i64 o.kind, .string ⟨o.bucket.toArray⟩, .string ⟨o.key.toArray⟩, .string ⟨o.after.toArray⟩, .int .i64 o.n, .int .u64 o.upload, pv, dv] ∧ OpRaw w o pv dv := by
  obtain ⟨xs, m, _, _, hl, hlen, hf⟩ := DataW.trod_struct Tryz.underlying26 h
  have e9 : Tryz.prog.cellsOf 26 = 9 := by kernel_rfl
  rw [e9] at hsz
  obtain ⟨l⟩ := cs
  have hl9 : l.length = 9 := hsz
  match l, hl9 with
  | [v0, v1, v2, v3, v4, v5, v6, v7, v8], _ =>
  have kU : Tryz.prog.cellsOf 22 = 1 := by kernel_rfl
  have kI : Tryz.prog.cellsOf 3 = 1 := by kernel_rfl
  have kS : Tryz.prog.cellsOf 9 = 1 := by kernel_rfl
  have kN : Tryz.prog.cellsOf 23 = 1 := by kernel_rfl
  have kB : Tryz.prog.cellsOf 24 = 1 := by kernel_rfl
  match xs, hlen with
  | [y0, y1, y2, y3, y4, y5, y6, y7, y8], _ =>
    have f0 : DataW.trod enc Tryz.prog w base spare held m 22 [v0] = some y0 := by have h7 := hf 0 _ rfl; simpa [kU, kI, kS, kN, kB] using h7
    have f1 : DataW.trod enc Tryz.prog w base spare held m 3 [v1] = some y1 := by have h7 := hf 1 _ rfl; simpa [kU, kI, kS, kN, kB] using h7
    have f2 : DataW.trod enc Tryz.prog w base spare held m 9 [v2] = some y2 := by have h7 := hf 2 _ rfl; simpa [kU, kI, kS, kN, kB] using h7
    have f3 : DataW.trod enc Tryz.prog w base spare held m 9 [v3] = some y3 := by have h7 := hf 3 _ rfl; simpa [kU, kI, kS, kN, kB] using h7
    have f4 : DataW.trod enc Tryz.prog w base spare held m 9 [v4] = some y4 := by have h7 := hf 4 _ rfl; simpa [kU, kI, kS, kN, kB] using h7
    have f5 : DataW.trod enc Tryz.prog w base spare held m 3 [v5] = some y5 := by have h7 := hf 5 _ rfl; simpa [kU, kI, kS, kN, kB] using h7
    have f6 : DataW.trod enc Tryz.prog w base spare held m 22 [v6] = some y6 := by have h7 := hf 6 _ rfl; simpa [kU, kI, kS, kN, kB] using h7
    have f7 : DataW.trod enc Tryz.prog w base spare held m 23 [v7] = some y7 := by have h7 := hf 7 _ rfl; simpa [kU, kI, kS, kN, kB] using h7
    have f8 : DataW.trod enc Tryz.prog w base spare held m 24 [v8] = some y8 := by have h7 := hf 8 _ rfl; simpa [kU, kI, kS, kN, kB] using h7
    obtain ⟨n0, e0, _, g0⟩ := DataW.trod_int Tryz.underlying22 f0
    obtain ⟨n1, e1, _⟩ := DataW.trod_int Tryz.underlying3 f1
    obtain ⟨s2, e2, _, g2⟩ := DataW.trod_string Tryz.underlying9 f2
    obtain ⟨s3, e3, _⟩ := DataW.trod_string Tryz.underlying9 f3
    obtain ⟨s4, e4, _⟩ := DataW.trod_string Tryz.underlying9 f4
    obtain ⟨n5, e5, _⟩ := DataW.trod_int Tryz.underlying3 f5
    obtain ⟨n6, e6, _, g6⟩ := DataW.trod_int Tryz.underlying22 f6
    obtain ⟨ks, hks, hkl⟩ := open_n f7
    obtain ⟨bs, hbs⟩ := open_b f8
    simp only [List.cons.injEq, and_true] at e0 e1 e2 e3 e4 e5 e6
    subst e0 e1 e2 e3 e4 e5 e6
    obtain ⟨m0, rfl, hm0⟩ := nat_of_wf g0
    obtain ⟨m6, rfl, hm6⟩ := nat_of_wf g6
    refine ⟨⟨m0, n1, s2.data.toList, s3.data.toList, s4.data.toList, n5, m6, ks, bs⟩, v7, v8, rfl, ⟨hm0, hm6, hks, hbs, ?_, hkl⟩⟩
    show s2.data.toList.length ≤ _
    unfold maxLen at g2
    rw [Array.length_toList]
    exact g2
end
end Go.Proofs.YtdegmpimcappjaaGreatDoor

/- What the laid variables give. -/
namespace Go.Proofs.YtdegmpimcappjaaGreatDoor
open Go.ChangeShapes Go.WideShapes Go.ChangeAt Go.RowKit Go.Gl Go.Front

theorem tab_cell {W : World} {name : String} {k : IntKind} {zs : List Int} {g i : Nat} {n : Int} (h : Lib.TabIs Tryz.prog W name k zs) (hg : Tryz.prog.globalNamed name = some g) (hi : zs[i]? = some n) : W.cell? ⟨g, i, none⟩ = some (.int k n) := by
  unfold Lib.TabIs at h
  have := World.var?_cell hg h i
  rw [this]
  simp [hi]

theorem err_cell {P : Program} {W : World} {n nm : String} {d : DataW Unit} {r : List (String × DataW Unit)} {g : Nat} {ti : TypeId} {ms : Array (String × TypeId)}
    (h : laidMet P ((n, .iface nm d) :: r) W) (hg : P.globalNamed n = some g) (ht : (P.globals[g]?).map (·.type) = some ti) (hi : P.underlying ti = some (.interface ms)) : ∃ ev, W.cell? ⟨g, 0, none⟩ = some ev ∧ (ev = .nilIface ∨ ∃ te pe, ev = .iface te pe) := by
  obtain ⟨ps, ⟨g0, t0, cs0, f0, p0, q0, hg0, ht0, hv0, hd0, _, e0⟩, _⟩ := h
  obtain rfl := Option.some.inj (hg.symm.trans hg0)
  obtain rfl := Option.some.inj (ht.symm.trans ht0)
  obtain ⟨f1, u, v, hcs, _, _⟩ := iface_of_trod hi hd0
  refine ⟨.iface u v, ?_, .inr ⟨u, v, rfl⟩⟩
  rw [World.var?_cell hg0 hv0 0]
  obtain ⟨l0⟩ := cs0
  have : l0 = [.iface u v] := hcs
  subst this
  rfl

theorem base_laid {W : World} (hS : W.ShapedOpen Tryz.prog) (hL : laidMetH Tryz.prog Rows.frontPrintsRow.laid W) : Base W := by
  rw [MakeChecks.laidMetH_plain _ _ _ (by kernel_rfl)] at hL
  have h1 : laidMet Tryz.prog (("math/bits.deBruijn64tab", Rows.laid_math_bits_deBruijn64tab) :: [("internal/strconv.uint64pow10", Rows.laid_internal_strconv_uint64pow10), ("unicode/utf8.acceptRanges", Rows.laid_unicode_utf8_acceptRanges), ("strconv.ErrRange", Rows.laid_strconv_ErrRange), ("strconv.ErrSyntax", Rows.laid_strconv_ErrSyntax), ("unicode/utf8.first", Rows.laid_unicode_utf8_first)]) W := laidMet.tail hL
  have h2 : laidMet Tryz.prog (("internal/strconv.uint64pow10", Rows.laid_internal_strconv_uint64pow10) :: [("unicode/utf8.acceptRanges", Rows.laid_unicode_utf8_acceptRanges), ("strconv.ErrRange", Rows.laid_strconv_ErrRange), ("strconv.ErrSyntax", Rows.laid_strconv_ErrSyntax), ("unicode/utf8.first", Rows.laid_unicode_utf8_first)]) W := laidMet.tail h1
  have h3 : laidMet Tryz.prog (("unicode/utf8.acceptRanges", Rows.laid_unicode_utf8_acceptRanges) :: [("strconv.ErrRange", Rows.laid_strconv_ErrRange), ("strconv.ErrSyntax", Rows.laid_strconv_ErrSyntax), ("unicode/utf8.first", Rows.laid_unicode_utf8_first)]) W := laidMet.tail h2
  have h4 : laidMet Tryz.prog (("strconv.ErrRange", Rows.laid_strconv_ErrRange) :: [("strconv.ErrSyntax", Rows.laid_strconv_ErrSyntax), ("unicode/utf8.first", Rows.laid_unicode_utf8_first)]) W := laidMet.tail h3
  have h5 : laidMet Tryz.prog (("strconv.ErrSyntax", Rows.laid_strconv_ErrSyntax) :: [("unicode/utf8.first", Rows.laid_unicode_utf8_first)]) W := laidMet.tail h4
  rw [show (Rows.laid_internal_strconv_uint64pow10 : DataW Unit) = Lib.tabData .u64 Lib.pow10Tab by kernel_rfl] at h2
  have d64 : (Rows.laid_math_bits_deBruijn64tab : DataW Unit) = Lib.tabData .u8 [0, 1, 56, 2, 57, 49, 28, 3, 61, 58, 42, 50, 38, 29, 17, 4, 62, 47, 59, 36, 45, 43, 51, 22, 53, 39, 33, 30, 24, 18, 12, 5, 63, 55, 48, 27, 60, 41, 37, 16, 46, 35, 44, 21, 52, 32, 23, 11, 54, 26, 40, 15, 34, 20, 31, 10, 25, 14, 19, 9, 13, 8, 7, 6] := by kernel_rfl
  rw [d64] at h1
  have t2 := Lib.tabIs_of_head (g := 1) (t := 160) (e := 22) (n := 20) (by kernel_rfl) (by kernel_rfl) (by kernel_rfl) (by kernel_rfl) (by kernel_rfl) (by kernel_rfl) h2
  have t1 := Lib.tabIs_of_head (g := 5) (t := 174) (e := 5) (n := 64) (by kernel_rfl) (by kernel_rfl) (by kernel_rfl) (by kernel_rfl) (by kernel_rfl) (by kernel_rfl) h1
  obtain ⟨ps3, ⟨g3, ty3, cs3, fu3, p3, q3, hg3, hty3, hv3, _⟩, _⟩ := h3
  have e3 : Tryz.prog.globalNamed "unicode/utf8.acceptRanges" = some 7 := by kernel_rfl
  have h7 : 7 < W.heap.size := by
    unfold World.var? at hv3
    rw [e3] at hv3
    simp only [Option.bind_some] at hv3
    rcases Nat.lt_or_ge 7 W.heap.size with h | h
    · exact h
    · simp [Array.getElem?_eq_none h] at hv3
  obtain ⟨m, hm⟩ := cell_of_shapedOpen_int (P := Tryz.prog) (g := 0) (t := 3) (zero := #[.int .i64 0]) (k := .i64) hS (of_decide_eq_true (by kernel_rfl)) (by kernel_rfl) rfl (by kernel_rfl) (by kernel_rfl) Tryz.underlying3
  exact ⟨h7, ⟨m, hm⟩, t2, err_cell (g := 2) h5 (by kernel_rfl) (by kernel_rfl) Tryz.underlying109, err_cell (g := 3) h4 (by kernel_rfl) (by kernel_rfl) Tryz.underlying109, tab_cell t1 (by kernel_rfl) (by rfl)⟩
end Go.Proofs.YtdegmpimcappjaaGreatDoor
