/- Merged out of KA, KB, KC: helpers. -/
import Derived.Test.YtejpcoghkgjanaaGreatDoorVO
import Derived.Test.YtejpcoghkgjanaaGreatDoorVP
import Derived.Test.YtejpcoghkgjanaaGreatDoorVK
/- manifest.edit, Version, turn. -/
namespace Go.Proofs.YtejpcoghkgjanaaGreatDoor
open Go.RowKit Go.Gl Go.Wal Mn

theorem own_tabs {B : Nat} {w : World} {v : Value} {l : List Tb} (h : Own B w v l) : Tabs w v l := by
  rcases h.2 with ⟨rfl, h0⟩ | ⟨g, cap, cur, rfl, h2, h3, h4⟩
  · have hl : l = [] := List.eq_nil_of_length_eq_zero h0
    subst hl
    exact tabs_nil w
  · exact ⟨_, _, rfl, .inr ⟨g, 0, rfl, lt_of_getElem? h3, rd_of_owns enc5 h⟩⟩

set_option maxRecDepth 100000 in
theorem medit_any {B : Nat} {w : World} {tv : Value} {V : VerD} (hV : Good V) (hown : Own B w tv V.tabs) (hl : V.tabs.length ≤ 5000) (hk : keyN V.tabs ≤ 60000000) :
    Calls Tryz.prog 29 #[.agg (verCells tv V.seq V.next V.wal)] w fun e w' => ∃ v, e = .returned v ∧ OwnB w.heap.size w' v (frameD crcTab (encD (wholeD V))) ∧ Grow w w' := by
  have hlen := encD_len (wholeD V)
  have hl2 : (encD (wholeD V)).length ≤ 60300000 := by
    have e1 : (wholeD V).add = V.tabs := rfl
    have e2 : (wholeD V).drop = [] := rfl
    rw [e1, e2] at hlen
    simp only [List.length_nil] at hlen
    omega
  have hga : Grow w (w.alloc (.cells (verCells tv V.seq V.next V.wal) 38)) := Grow.alloc _ _
  have hb := heap_alloc_new w (.cells (verCells tv V.seq V.next V.wal) 38)
  have Henc := Lib.hid (encode_any (w := w.alloc (.cells (verCells tv V.seq V.next V.wal) 38)) (E := wholeD V) (fit_whole hV (by omega)) ((own_tabs hown).grow hga) (ints_nil _) (by show keyN V.tabs ≤ _; omega))
  obtain ⟨ta, tc, rfl⟩ := own_slice hown
  obtain ⟨c0, c1, c2, c3⟩ := cells4 hb
  have lb := lt_of_getElem? hb
  have Hga := Lib.hid hga
  have e3 : edCells (.slice ta V.tabs.length tc) (.slice none 0 0) (wholeD V).seq (wholeD V).next (wholeD V).wal = #[.slice ta V.tabs.length tc, .slice none 0 0, .int .u64 V.seq, .int .i64 V.next, .int .i64 V.wal] := rfl
  rw [e3] at Henc
  clear hb hga hlen e3 hown
  generalize encD (wholeD V) = X at *
  go_enter Tryz.func29, Tryz.ntmps29
  go_wp2_with fail
  (with_reducible refine Henc.out.mono ?_)
  rintro e w2 ⟨v, rfl, ho, hg⟩
  have Hfr := Lib.hid (frame_any (ownB_bv ho) (by omega))
  obtain ⟨va, vc, rfl⟩ := ho.slice
  have Hg := Lib.hid (Hga.out.trans hg)
  clear ho hg Henc
  go_wp2_with fail
  (with_reducible refine Hfr.out.mono ?_)
  rintro e w3 ⟨v, rfl, ho, hg⟩
  obtain ⟨xa, xL, xc, rfl⟩ : ∃ a L c, v = .slice a L c := by obtain ⟨a, c, h⟩ := ho.slice; exact ⟨_, _, _, h⟩
  have Ho := Lib.hid (ho.mono Hg.out.size)
  clear ho Hfr
  go_wp2
  go_ret
  exact ⟨_, rfl, Ho.out, Hg.out.trans hg⟩

theorem results_ver {w : World} {t : Array Value} {rb : Nat} {x0 x1 x2 x3 : Value} (h2 : t.getD 2 undef = .pointer (some ⟨rb, 0, none⟩)) (hW : w.heap[rb]? = some (.cells #[x0, x1, x2, x3] 38 (0, 0))) :
    (results Tryz.f12 t).run Tryz.prog w = .ok (.agg #[x0, x1, x2, x3]) w := by
  obtain ⟨k0, k1, k2, k3⟩ := cells4 hW
  simp only [Array.getD_eq_getD_getElem?] at h2
  simp [results, Tryz.results12, go_sem, h2, k0, k1, k2, k3]

set_option maxRecDepth 100000 in
theorem version_any {w : World} {sb p : Nat} {tv : Value} {V : VerD} {n : Int} {B : Nat} (hS : SetAt w sb p tv V n) (hown : Own B w tv V.tabs) (hl : V.tabs.length < 1000000000) :
    Calls Tryz.prog 12 #[.pointer (some ⟨sb, 0, none⟩)] w fun e w' => ∃ v', e = .returned (.agg (verCells v' V.seq V.next V.wal)) ∧ Own w.heap.size w' v' V.tabs ∧ Grow w w' := by
  have hga : Grow w (w.alloc (.cells (verCells (.slice none 0 0) 0 0 0) 38)) := Grow.alloc _ _
  have hb := heap_alloc_new w (.cells (verCells (.slice none 0 0) 0 0 0) 38)
  have hS1 := hS.grow hga
  obtain ⟨_, c1, c2, c3, c4, _, ls⟩ := hS1.cells
  have Hap := Lib.hid (apart_any (owns_grow hown hga) hl V.seq V.next V.wal)
  obtain ⟨ta, tc, rfl⟩ := own_slice hown
  have Hb := Lib.hid hb
  have Hga := Lib.hid hga
  have hz : (w.alloc (.cells (verCells (.slice none 0 0) 0 0 0) 38)).heap.size = w.heap.size + 1 := by simp
  clear hS hS1 hown hb hga
  go_enter Tryz.func12, Tryz.ntmps12
  go_upto_region 1 with fail
  generalize w.alloc (.cells (verCells (.slice none 0 0) 0 0 0) 38) = w1 at *
  go_wp2_with fail
  (with_reducible refine Hap.out.mono ?_)
  rintro e w2 ⟨v, rfl, ho, hg⟩
  have hb2 := hg.heap Hb.out
  obtain ⟨q0, q1, q2, q3⟩ := cells4 hb2
  have lq := lt_of_getElem? hb2
  have fq : ∀ i, w2.frozen? ⟨w.heap.size, i, none⟩ = false := fun i => by simp [World.frozen?, hb2]
  obtain ⟨va, vc, rfl⟩ := own_slice ho
  have hset := set4 hb2 (.slice va V.tabs.length vc) (.int .u64 V.seq) (.int .i64 V.next) (.int .i64 V.wal)
  have hown := set4_own (owns_mono ho Hga.out.size) hb2 (.slice va V.tabs.length vc) (.int .u64 V.seq) (.int .i64 V.next) (.int .i64 V.wal)
  have hgr := set4_below (Hga.out.trans hg) (Nat.le_refl _) (.slice va V.tabs.length vc) (.int .u64 V.seq) (.int .i64 V.next) (.int .i64 V.wal)
  have Hfin := Lib.hid (And.intro hset (And.intro hown hgr))
  clear ho hg hb2 hset hown hgr c1 c2 c3 c4 ls Hap
  go_wp2
  exact bodyPost_ret (results_ver rfl Hfin.out.1) rfl ⟨_, rfl, Hfin.out.2.1, Hfin.out.2.2⟩
end Go.Proofs.YtejpcoghkgjanaaGreatDoor

/- manifest.Set's turn, where there is room. -/
namespace Go.Proofs.YtejpcoghkgjanaaGreatDoor
open Go.RowKit Go.Gl Go.Wal Mn

/-- What a step of the set leaves: all blocks below B, and all that are not soft. -/
structure Rl (B : Nat) (w w' : World) : Prop where
  hold : Hold w w'
  below : Below B w w'
theorem Rl.refl (B : Nat) (w : World) : Rl B w w := ⟨Hold.refl w, Below.refl _ _⟩
theorem Rl.trans {B : Nat} {a b c : World} (h : Rl B a b) (k : Rl B b c) : Rl B a c := ⟨h.hold.trans k.hold, h.below.trans k.below⟩
theorem Rl.grow {B : Nat} {w w' : World} (h : Grow w w') (hB : B ≤ w.heap.size) : Rl B w w' := ⟨Hold.grow h, h.mono hB⟩
theorem Rl.sep {Z B : Nat} {w w' : World} {p r : Nat} {f : Lk} {T K : Nat} {F F' : Nat → Prop} (hd : Dl Z B w p r f T K F) (h : Sep F w w' F') : Rl B w w' :=
  ⟨Hold.sep hd h, h.below (fun _ hb => (hd.foot hb).1) hd.base⟩
theorem Rl.set {B : Nat} {w : World} {sb : Nat} {cs : Array Value} {f : Nat × Nat} (hb : w.heap[sb]? = some (.cells cs 58 f)) (hB : B ≤ sb) (j : Nat) (v : Value) : Rl B w (w.setCell ⟨sb, j, none⟩ v) :=
  ⟨Hold.set hb j v, (Below.refl _ _).setCell (p := ⟨sb, j, none⟩) hB v⟩

theorem Dl.setS {Z B : Nat} {w : World} {p r : Nat} {f : Lk} {T K : Nat} {F : Nat → Prop} (h : Dl Z B w p r f T K F) {sb : Nat} {cs : Array Value} {fz : Nat × Nat} (hb : w.heap[sb]? = some (.cells cs 58 fz)) (j : Nat) (v : Value) : Dl Z B (w.setCell ⟨sb, j, none⟩ v) p r f T K F := by
  have hnf := h.apart hb (by decide) (by decide) (by decide)
  obtain ⟨V, ⟨hZ, h0, born, fs, hd, h1, h2⟩, h3, h4, h5⟩ := h
  subst h2
  obtain ⟨c, hm, hc⟩ := hd.map
  have ho : ∀ b, Foot p r fs b → (w.setCell ⟨sb, j, none⟩ v).heap[b]? = w.heap[b]? := fun b hbf => Below.heap_setCell _ _ _ _ (fun e => hnf (by have e' : b = sb := e; subst e'; exact hbf))
  refine ⟨V, ⟨hZ, h0, born, fs, ⟨(ho p (.inl rfl)).trans hd.self, ⟨c, (ho r (.inr (.inl rfl))).trans hm, hc⟩, hd.names, hd.borns, hd.fbs, hd.rows, fun f hf => ?_, hd.base.1, hd.base.2.1, by simpa using hd.base.2.2⟩, h1, rfl⟩, h3, h4, h5⟩
  have hfa := hd.files f hf
  exact ⟨(ho _ (.inr (.inr ⟨f, hf, .inl rfl⟩))).trans hfa.cell, hfa.row.keep (fun b hb => ho b (.inr (.inr ⟨f, hf, .inr hb⟩))), hfa.base, hfa.sync⟩

theorem bv_sep {w w' : World} {F F' : Nat → Prop} {v : Value} {x : List UInt8} (h : Bv w v x) (hf : ∀ b, v.ownBlock = some b → ¬ F b) (hs : Sep F w w' F') : Bv w' v x := by
  obtain ⟨a, c, rfl, h1, h2, h3, h4⟩ := h
  refine ⟨a, c, rfl, h1, h2, h3, ?_⟩
  rcases h4 with h4 | ⟨b, o, rfl, hb, hc⟩
  · exact .inl h4
  · refine .inr ⟨b, o, rfl, Nat.lt_of_lt_of_le hb hs.size, fun j k hk => ?_⟩
    rw [← hc j k hk]
    simp only [World.cell?, hs.out b hb (hf b rfl)]

/-- The bytes that say a number. -/
abbrev digB (n : Nat) : List UInt8 := Lib.decDigits n

/-- What turn does to the files, where there is room. -/
def turnL (n : Nat) (x : List UInt8) (f : Lk) : Lk := (f.set (manN n) (x, x.length)).set curN (digB n, (digB n).length)

theorem Lk.none_set {f : Lk} {m n : ByteArray} {q : List UInt8 × Nat} (h : f m = none) (hne : m ≠ n) : (f.set n q) m = none := by rw [lk_set_ne f hne]; exact h

theorem turn_files {n : Nat} {x : List UInt8} {f : Lk} (ht : f ctmpN = none) : ((((f.set (manN n) (x, x.length)).set ctmpN (digB n, (digB n).length)).del ctmpN).set curN (digB n, (digB n).length)) = turnL n x f := by
  rw [lk_set_del, lk_del_none (Lk.none_set ht (Ne.symm (man_tmp n)))]
  rfl

set_option maxRecDepth 100000 in
set_option maxHeartbeats 4000000 in
theorem turn_ok {Z B N : Nat} {w : World} {p r : Nat} {f : Lk} {T K : Nat} {F : Nat → Prop} {sb : Nat} {tv : Value} {V : VerD} {m : Int} (hS : SetAt w sb p tv V m) (h : Dl Z B w p r f T K F) (hB : B ≤ sb) (hN : Nums N B w) {n : Nat} (hn : n < N) (h6 : n < 1000000)
    {bv : Value} {x : List UInt8} (hx : Bv w bv x) (hxl : x.length ≤ 1000000000000) (hfree : ∀ b, bv.ownBlock = some b → ¬ F b) (htmp : f ctmpN = none) (hroom : T + x.length + 6 ≤ Z) :
    Calls Tryz.prog 28 #[.pointer (some ⟨sb, 0, none⟩), .int .i64 n, bv] w fun e w' => e = .returned .nilIface ∧ SetAt w' sb p tv V n ∧ (∃ T' F', T' ≤ T + x.length + 6 ∧ Dl Z B w' p r (turnL n x f) T' (K + 3) F') ∧ Rl B w w' := by
  have hd6 := digits_small h6
  have hd6' : (digB n).length ≤ 6 := hd6
  obtain ⟨xa, xc, rfl⟩ := hx.slice
  have Hm := Lib.hid (mname_any hN hn h6)
  have H := Lib.hid h
  have HS := Lib.hid hS
  have HN := Lib.hid hN
  have Hx := Lib.hid hx
  have Hf := Lib.hid hfree
  clear h hS hN hx hfree
  go_enter Tryz.func28, Tryz.ntmps28
  go_wp2_with fail
  (with_reducible refine Hm.out.mono ?_)
  rintro e w1 ⟨rfl, hg1⟩
  have hD1 : writeD Z (manN n) x f T = (true, f.set (manN n) (x, x.length), T - lkLen f (manN n) + x.length) := if_pos (by omega)
  have Hw := Lib.hid (write_any (HS.out.grow hg1) (H.out.grow hg1) (man_ok h6) (Hx.out.grow hg1) hxl (fun w' F' hs => bv_sep (Hx.out.grow hg1) Hf.out hs))
  rw [hD1] at Hw
  have Hg1 := Lib.hid hg1
  clear hg1 hD1 Hm
  go_wp2_with fail
  (with_reducible refine Hw.out.mono ?_)
  rintro e w2 ⟨rfl, F2, hd2, hs2⟩
  have hs02 := (Sep.ofGrow (F := F) Hg1.out).trans hs2
  have hN2 := HN.out.keep (w' := w2) (fun b hb => hs02.out b (by have := H.out.base; omega) (fun hf => by have := (H.out.foot hf).1; omega))
  have Hi := Lib.hid (hN2 n hn w2 (fun _ _ => rfl))
  have HS2 := Lib.hid (HS.out.sep H.out hs02)
  have Hd2 := Lib.hid hd2
  have Hr2 := Lib.hid (Rl.sep H.out hs02)
  clear hs2 hd2 hs02 hN2 Hw Hg1 Hx Hf H HS HN
  have ok0 : okC true = 0 := rfl
  rw [ok0]
  go_wp2_with fail
  (with_reducible refine Hi.out.mono ?_)
  rintro e w3 ⟨rfl, hg3⟩
  obtain ⟨cap, w4, hconv, hbv, hg4⟩ := conv_bytes ⟨(Lib.decDigits n).toArray⟩ (by simp [ByteArray.size]; omega) w3
  have hg24 := hg3.trans hg4
  have hd4 := Hd2.out.grow hg24
  have hbl : ∀ b, (Value.slice (some ⟨w3.heap.size, 0, none⟩) (ByteArray.size ⟨(Lib.decDigits n).toArray⟩) cap).ownBlock = some b → ¬ F2 b := fun b hb hf => by
    have e : w3.heap.size = b := by simpa [Value.ownBlock] using hb
    have := (Hd2.out.foot hf).2
    have := hg3.size
    omega
  have hbv' : Bv w4 (.slice (some ⟨w3.heap.size, 0, none⟩) (ByteArray.size ⟨(Lib.decDigits n).toArray⟩) cap) (Lib.decDigits n) := by simpa using hbv
  have hT1 : lkLen (f.set (manN n) (x, x.length)) ctmpN = 0 := by unfold lkLen; rw [Lk.none_set htmp (Ne.symm (man_tmp n))]
  have hD2 : writeD Z ctmpN (Lib.decDigits n) (f.set (manN n) (x, x.length)) (T - lkLen f (manN n) + x.length) = (true, (f.set (manN n) (x, x.length)).set ctmpN (digB n, (digB n).length), T - lkLen f (manN n) + x.length - lkLen (f.set (manN n) (x, x.length)) ctmpN + (digB n).length) := if_pos (by rw [hT1]; omega)
  have Hw2 := Lib.hid (write_any (HS2.out.grow hg24) hd4 ctmp_ok hbv' (by omega) (fun w' F' hs => bv_sep hbv' hbl hs))
  rw [hD2] at Hw2
  have Hd4 := Lib.hid hd4
  have HS4 := Lib.hid (HS2.out.grow hg24)
  have Hr4 := Lib.hid (Hr2.out.trans (Rl.grow hg24 Hd2.out.base))
  have hszn : ByteArray.size ⟨(Lib.decDigits n).toArray⟩ = (Lib.decDigits n).length := by simp [ByteArray.size]
  clear hbv hbv' hbl hd4 hg24 hD2 hg3 Hi Hd2 HS2 Hr2
  rw [hszn] at Hw2
  go_wp2_with fail
  (with_reducible refine Hw2.out.mono ?_)
  rintro e w5 ⟨rfl, F5, hd5, hs5⟩
  have hS5 := HS4.out.sep Hd4.out hs5
  have Hr5 := Lib.hid (Hr4.out.trans (Rl.sep Hd4.out hs5))
  obtain ⟨c0, _, _, _, _, _, ls⟩ := hS5.cells
  have Hd5 := Lib.hid hd5
  have HS5 := Lib.hid hS5
  clear hd5 hs5 hS5 Hw2 Hd4 HS4 Hr4
  rw [ok0]
  go_wp2_with fail
  (with_reducible refine (dl_ren Hd5.out (Ne.symm cur_tmp) cur_ok (lk_set_same _ _ _)).mono ?_)
  rintro e w6 ⟨rfl, F6, hd6, hs6⟩
  rw [turn_files htmp] at hd6
  have hS6 := HS5.out.sep Hd5.out hs6
  have hr6 := Hr5.out.trans (Rl.sep Hd5.out hs6)
  have hS6' : w6.heap[sb]? = some (.cells (setCells p tv V m) 58 (0, 0)) := hS6
  have ls6 := lt_of_getElem? hS6'
  have c5 : w6.cell? ⟨sb, 5, none⟩ = some (.int .i64 m) := by simp [World.cell?, hS6']
  have f6 : ∀ i, w6.frozen? ⟨sb, i, none⟩ = false := fun i => by simp [World.frozen?, hS6']
  have hS7 : SetAt (w6.setCell ⟨sb, 5, none⟩ (.int .i64 (n : Int))) sb p tv V n := Go.Gl.setCell_heap hS6' 5 _
  have hd7 := hd6.setS hS6' 5 (.int .i64 (n : Int))
  have hr7 := hr6.trans (Rl.set hS6' hB 5 (.int .i64 (n : Int)))
  have Hend := Lib.hid (And.intro hS7 (And.intro hd7 hr7))
  clear hd6 hs6 hS6 hr6 hS6' hS7 hd7 hr7 c0 ls
  go_wp2
  go_ret
  exact ⟨rfl, Hend.out.1, ⟨_, F6, by have := hd6'; omega, Hend.out.2.1⟩, Hend.out.2.2⟩
end Go.Proofs.YtejpcoghkgjanaaGreatDoor

/- manifest.Set's Rotate, where there is room. -/
namespace Go.Proofs.YtejpcoghkgjanaaGreatDoor
open Go.RowKit Go.Gl Go.Wal Mn

/-- A manifest that makes a version anew. -/
abbrev wholeB (V : VerD) : List UInt8 := frameD crcTab (encD (wholeD V))

theorem wholeB_len (V : VerD) : (wholeB V).length ≤ 100 + 50 * V.tabs.length + keyN V.tabs := by
  have hlen := encD_len (wholeD V)
  have e1 : (wholeD V).add = V.tabs := rfl
  have e2 : (wholeD V).drop = [] := rfl
  rw [e1, e2] at hlen
  simp only [List.length_nil] at hlen
  have h2 := frame_len crcTab (encD (wholeD V))
  have h3 := numD_len (encD (wholeD V)).length
  show (frameD crcTab (encD (wholeD V))).length ≤ _
  rw [h2]
  omega

theorem lkLen_le {Z B : Nat} {w : World} {p r : Nat} {f : Lk} {T K : Nat} {F : Nat → Prop} (h : Dl Z B w p r f T K F) (n : ByteArray) : lkLen f n ≤ T := by
  unfold lkLen
  cases hf : f n with
  | none => exact Nat.zero_le _
  | some q => exact h.len hf

set_option maxRecDepth 100000 in
set_option maxHeartbeats 4000000 in
theorem rotate_ok {Z B N : Nat} {w : World} {p r : Nat} {f : Lk} {T K : Nat} {F : Nat → Prop} {sb : Nat} {tv : Value} {V : VerD} {n m : Nat} (hnm : m = n + 1) (hS : SetAt w sb p tv V n) {B' : Nat} (hown : Own B' w tv V.tabs) (hV : Good V) (hl : V.tabs.length ≤ 5000) (hk : keyN V.tabs ≤ 60000000)
    (h : Dl Z B w p r f T K F) (hB : B ≤ sb) (hN : Nums N B w) (hn : m < N) (h6 : m < 1000000) (htmp : f ctmpN = none) (hroom : T + (wholeB V).length + 6 ≤ Z) :
    Calls Tryz.prog 10 #[.pointer (some ⟨sb, 0, none⟩)] w fun e w' => e = .returned (.int .i64 0) ∧ SetAt w' sb p tv V (m : Int) ∧ (∃ T' F', T' ≤ T + (wholeB V).length + 6 - lkLen f (manN n) ∧ Dl Z B w' p r ((turnL m (wholeB V) f).del (manN n)) T' (K + 3) F') ∧ Rl B w w' := by
  obtain ⟨c0, c1, c2, c3, c4, c5, ls⟩ := hS.cells
  have hwl := wholeB_len V
  have hwi : IntKind.i64.wrap ((n : Int) + 1) = (m : Int) := by rw [show (m : Int) = (n : Int) + 1 by omega]; exact IntWalk.i64_in _ (by omega)
  have e9 : ((n : Int) == 999999999) = false := by simp; omega
  have Hm := Lib.hid (medit_any hV hown hl hk)
  obtain ⟨ta, tc, rfl⟩ := own_slice hown
  have H := Lib.hid h
  have HS := Lib.hid hS
  have HN := Lib.hid hN
  have Hnm := Lib.hid hnm
  clear h hS hN hown hnm
  generalize hX : wholeB V = X at *
  go_enter Tryz.func10, Tryz.ntmps10
  go_wp2_with fail
  (with_reducible refine Hm.out.mono ?_)
  rintro e w1 ⟨v, rfl, ho, hg1⟩
  have ho' : OwnB w.heap.size w1 v X := by rw [← hX]; exact ho
  have hfree : ∀ b, v.ownBlock = some b → ¬ F b := fun b hb hf => by have := (H.out.foot hf).2; have := (ho'.lt hb).1; omega
  have Ht := Lib.hid (turn_ok (HS.out.grow hg1) (H.out.grow hg1) hB (HN.out.grow hg1 H.out.base) hn h6 (ownB_bv ho') (by omega) hfree htmp hroom)
  obtain ⟨va, vc, rfl⟩ := ho'.slice
  have Hg1 := Lib.hid hg1
  clear ho ho' hfree hg1 Hm
  go_wp2_with fail
  (with_reducible refine Ht.out.mono ?_)
  rintro e w2 ⟨rfl, hS2, ⟨T2, F2, hT2, hd2⟩, hr2⟩
  have HS2 := Lib.hid hS2
  have Hd2 := Lib.hid hd2
  have Hr2 := Lib.hid ((Rl.grow Hg1.out H.out.base).trans hr2)
  clear hS2 hd2 hr2 Ht c0 c1 c2 c3 c4 c5 ls
  obtain ⟨c0, _, _, _, _, _, ls⟩ := HS2.out.cells
  go_upto_region 6 with fail
  refine wp_region_pi (fun W => W.cell? ⟨sb, 0, none⟩ = some (.pointer (some ⟨p, 0, none⟩)) ∧ sb < W.heap.size) [(0, false), (1, false), (2, false), (3, false), (4, false), (5, true), (6, true), (7, true)] (by kernel_rfl) (by kernel_rfl) (fun c a d v w h => by cases d <;> exact h) ⟨by simpa using c0, by simpa using ls⟩ ?_
  simp only [arrange, nth]
  clear c0 ls
  repeat (first | (refine wpPi_quiet (v := ?_) (by rfl) (fun W hW => ?_) ?_; rotate_left; (obtain ⟨hW0, hW1⟩ := hW; go_simp; with_reducible rfl); simp only [Act.put, List.setIfInBounds_toArray, List.set_cons_zero, List.set_cons_succ]) | (refine wpPi_off (by rfl) ?_; simp only [Act.put, List.setIfInBounds_toArray, List.set_cons_zero, List.set_cons_succ]))
  have hgd := Grow.drew w2
  have hN2 : Nums N B w2 := HN.out.keep (fun b hb => Hr2.out.below.block b hb)
  have hd2B := Hd2.out.base
  refine wpPi_call (by rfl) (by go_simp) (mname_any (hN2.grow hgd hd2B) (n := n) (by have := Hnm.out; omega) (by have := Hnm.out; omega)) ?_
  rintro e w3 ⟨rfl, hg3⟩
  have hg23 := hgd.trans hg3
  obtain ⟨d0, _, _, _, _, _, ld⟩ := (HS2.out.grow hg23).cells
  refine ⟨_, rfl, ⟨d0, ld⟩, ?_⟩
  try simp only [Act.put, List.setIfInBounds_toArray, List.set_cons_zero, List.set_cons_succ]
  have hga := Grow.alloc w3 (.cells #[.string (manN n)] 9)
  obtain ⟨d0', _, _, _, _, _, ld'⟩ := ((HS2.out.grow hg23).grow hga).cells
  refine wpPi_run (by rfl) (execOp_buildSlice1 (v := .string (manN n)) rfl Tryz.underlying60 Tryz.infoStr rfl rfl rfl) ⟨d0', ld'⟩ ?_
  try simp only [Act.put, List.setIfInBounds_toArray, List.set_cons_zero, List.set_cons_succ]
  have hd3 := (Hd2.out.grow hg23).grow hga
  refine wpPi_call (by rfl) (by go_simp) (dl_del_any hd3 (manN n) (heap_alloc_new _ _)) ?_
  rintro e w4 ⟨⟨c, rfl⟩, F4, hd4, hs4⟩
  have hS4 := ((HS2.out.grow hg23).grow hga).sep hd3 hs4
  obtain ⟨e0, _, _, _, _, _, le⟩ := hS4.cells
  refine ⟨_, rfl, ⟨e0, le⟩, ?_⟩
  try simp only [Act.put, List.setIfInBounds_toArray, List.set_cons_zero, List.set_cons_succ]
  refine wpPi_nil ?_
  have hr4 := ((Hr2.out.trans (Rl.grow hg23 hd2B)).trans (Rl.grow hga (Hd2.out.grow hg23).base)).trans (Rl.sep hd3 hs4)
  have Hend := Lib.hid (And.intro hS4 (And.intro hd4 hr4))
  have hle := lkLen_le Hd2.out (manN n)
  have hmn : lkLen (turnL m X f) (manN n) = lkLen f (manN n) := by
    have h1 : manN n ≠ manN m := fun e => by have := manN_inj e; have := Hnm.out; omega
    unfold lkLen turnL
    rw [lk_set_ne _ (man_cur n), lk_set_ne _ h1]
  clear hgd hN2 hg3 hg23 hga hd3 hd4 hs4 hS4 hr4 d0 ld d0' ld' e0 le
  go_wp2
  go_ret
  exact ⟨rfl, Hend.out.1, ⟨_, F4, by rw [hmn]; omega, Hend.out.2.1⟩, Hend.out.2.2⟩
end Go.Proofs.YtejpcoghkgjanaaGreatDoor
