/- Merged out of YI: helpers. -/
import Derived.Test.YtdegmpimcappjaaGreatDoorFD
/- The program's check of an operation. -/
namespace Go.Proofs.YtdegmpimcappjaaGreatDoor
open Go.RowKit Go.Gl Go.Front

theorem ck_two {w w2 : World} {a b : Obj} (h : Grow (w.alloc a) w2) : (w2.alloc b).heap[w.heap.size]? = some a ∧ (w2.alloc b).heap[w2.heap.size]? = some b ∧ Grow w (w2.alloc b) := by
  have h1 : (w.alloc a).heap[w.heap.size]? = some a := heap_alloc_new w a
  have h2 : w2.heap[w.heap.size]? = some a := (h.block _ (lt_of_getElem? h1)).trans h1
  refine ⟨(heap_alloc_old _ _ (lt_of_getElem? h2)).trans h2, heap_alloc_new _ _, ((Grow.alloc w a).trans h).trans (Grow.alloc _ _)⟩

theorem ck_cell {W : World} {b : Nat} {a : Array Value} {t : TypeId} (h : W.heap[b]? = some (.cells a t)) {j : Nat} {v : Value} (hj : a[j]? = some v) : W.cell? ⟨b, j, none⟩ = some v := by
  unfold World.cell?
  rw [h]
  exact hj

set_option maxRecDepth 100000 in
set_option maxHeartbeats 16000000 in
theorem check_any {w : World} {id : Nat} {k : Int} {sb sk sa : ByteArray} {n : Int} {u : Nat} {pv dv : Value} {pl : List Int} {dl : List UInt8} (hp : Iv w pv pl) (hd : Bv w dv dl) (hb : sb.size ≤ 9223372036854775807) (hmax : pl.length ≤ 9223372036854775807) :
    Calls Tryz.prog 32 #[.agg #[.int .u64 id, .int .i64 k, .string sb, .string sk, .string sa, .int .i64 n, .int .u64 u, pv, dv]] w fun e w' => e = .returned (.int .i64 (errD (right ⟨id, k, sb.data.toList, sk.data.toList, sa.data.toList, n, u, pl, dl⟩))) ∧ Grow w w' := by
  obtain ⟨pa, pc, rfl, hpv⟩ := hp
  obtain ⟨da, dc, rfl, hdl, hdm, hdn, hdv⟩ := hd
  have HF := fun W => fields_any k W
  have Hpv : Hid (Iv w (.slice pa pl.length pc) pl) := Lib.hid ⟨pa, pc, rfl, hpv⟩
  clear hpv hdv hdl hdm hdn
  obtain ⟨nb, HNb⟩ : ∃ b, Hid (b = nameB sb.data.toList) := ⟨_, Lib.hid rfl⟩
  have HN : ∀ W, Calls Tryz.prog 67 #[.string sb] W fun e W' => e = .returned (.bool nb) ∧ W' = W := fun W => by rw [HNb.out]; exact named_any sb W hb
  obtain ⟨lk1, HLk1⟩ : ∃ b, Hid (b = (decide ((1 : Int) ≤ (sk.size : Int)) && decide ((sk.size : Int) ≤ 1024))) := ⟨_, Lib.hid rfl⟩
  obtain ⟨lk0, HLk0⟩ : ∃ b, Hid (b = (decide ((0 : Int) ≤ (sk.size : Int)) && decide ((sk.size : Int) ≤ 1024))) := ⟨_, Lib.hid rfl⟩
  obtain ⟨la0, HLa0⟩ : ∃ b, Hid (b = (decide ((0 : Int) ≤ (sa.size : Int)) && decide ((sa.size : Int) ≤ 1024))) := ⟨_, Lib.hid rfl⟩
  obtain ⟨rp, HRp⟩ : ∃ b, Hid (b = partsB pl) := ⟨_, Lib.hid rfl⟩
  have HK1 : ∀ W, Calls Tryz.prog 68 #[.string sk, .int .i64 1, .int .i64 1024] W fun e W' => e = .returned (.bool lk1) ∧ W' = W := fun W => by rw [HLk1.out]; exact long_any sk 1 1024 W
  have HK0 : ∀ W, Calls Tryz.prog 68 #[.string sk, .int .i64 0, .int .i64 1024] W fun e W' => e = .returned (.bool lk0) ∧ W' = W := fun W => by rw [HLk0.out]; exact long_any sk 0 1024 W
  have HA0 : ∀ W, Calls Tryz.prog 68 #[.string sa, .int .i64 0, .int .i64 1024] W fun e W' => e = .returned (.bool la0) ∧ W' = W := fun W => by rw [HLa0.out]; exact long_any sa 0 1024 W
  have HRi : ∀ W, Grow w W → Calls Tryz.prog 69 #[.slice pa pl.length pc] W fun e W' => e = .returned (.bool rp) ∧ Grow W W' := fun W hW => by rw [HRp.out]; exact rising_any (Hpv.out.grow hW) hmax
  have Hri := Lib.hid HRi
  clear HRi hb hmax
  obtain ⟨eb, heb⟩ : ∃ b, sb.toList.isEmpty = b := ⟨_, rfl⟩
  obtain ⟨ek, hek⟩ : ∃ b, sk.toList.isEmpty = b := ⟨_, rfl⟩
  obtain ⟨ea, hea⟩ : ∃ b, sa.toList.isEmpty = b := ⟨_, rfl⟩
  obtain ⟨n1, hn1⟩ : ∃ b, decide (1 ≤ n) = b := ⟨_, rfl⟩
  obtain ⟨n2, hn2⟩ : ∃ b, decide (n ≤ 1000) = b := ⟨_, rfl⟩
  obtain ⟨n3, hn3⟩ : ∃ b, decide (n ≤ 10000) = b := ⟨_, rfl⟩
  obtain ⟨n0, hn0⟩ : ∃ b, (n == 0) = b := ⟨_, rfl⟩
  obtain ⟨u0, hu0⟩ : ∃ b, ((u : Int) == 0) = b := ⟨_, rfl⟩
  obtain ⟨l0, hl0⟩ : ∃ b, ((pl.length : Int) == 0) = b := ⟨_, rfl⟩
  obtain ⟨d1, hd1⟩ : ∃ b, decide (16777216 < (dl.length : Int)) = b := ⟨_, rfl⟩
  obtain ⟨d0, hd0⟩ : ∃ b, decide (0 < (dl.length : Int)) = b := ⟨_, rfl⟩
  have hd9 : decide (0 < dl.length) = d0 := by rw [← hd0, Bool.eq_iff_iff]; simp
  have hl1 : (dl.length == 0) = (dl.length == 0) := rfl
  have HR : Hid (right ⟨id, k, sb.data.toList, sk.data.toList, sa.data.toList, n, u, pl, dl⟩ = ckB (flK k) (fl0 k) (fl1 k) (fl2 k) (fl3 k) (fl4 k) (fl5 k) (fl6 k) nb eb lk1 lk0 ek la0 n1 n2 n3 n0 ea u0 rp l0 d1 d0) := Lib.hid (by
    rw [HNb.out, HLk1.out, HLk0.out, HLa0.out, HRp.out, ← heb, ← hek, ← hea, ← hn1, ← hn2, ← hn3, ← hn0, ← hu0, ← hl0, ← hd1, ← hd0]
    exact right_ck id k sb sk sa n u pl dl)
  clear HNb HLk1 HLk0 HLa0 HRp
  go_enter Tryz.func32, Tryz.ntmps32
  go_upto_region 2 with (with_reducible refine (HF _).mono ?_)
  rintro e w2 ⟨rfl, hg2⟩
  generalize fl0 k = f0 at HR ⊢
  generalize fl1 k = f1 at HR ⊢
  generalize fl2 k = f2 at HR ⊢
  generalize fl3 k = f3 at HR ⊢
  generalize fl4 k = f4 at HR ⊢
  generalize fl5 k = f5 at HR ⊢
  generalize fl6 k = f6 at HR ⊢
  generalize flK k = kn at HR ⊢
  go_upto_region 2 with fail
  have HK := ck_two (b := .cells #[.bool f0, .bool f1, .bool f2, .bool f3, .bool f4, .bool f5, .bool f6] 96) hg2
  clear hg2
  generalize w2.alloc (.cells #[.bool f0, .bool f1, .bool f2, .bool f3, .bool f4, .bool f5, .bool f6] 96) = W0 at *
  obtain ⟨hbk, hbf, hg0⟩ := HK
  have lb1 : w.heap.size < W0.heap.size := lt_of_getElem? hbk
  have lb3 : w2.heap.size < W0.heap.size := lt_of_getElem? hbf
  have HG := Lib.hid hg0
  clear hg0
  generalize w.heap.size = B1 at *
  generalize w2.heap.size = B3 at *

  have q1 : W0.cell? ⟨B1, 1, none⟩ = some (.int .i64 k) := ck_cell hbk rfl
  have q2 : W0.cell? ⟨B1, 2, none⟩ = some (.string sb) := ck_cell hbk rfl
  have q3 : W0.cell? ⟨B1, 3, none⟩ = some (.string sk) := ck_cell hbk rfl
  have q4 : W0.cell? ⟨B1, 4, none⟩ = some (.string sa) := ck_cell hbk rfl
  have q5 : W0.cell? ⟨B1, 5, none⟩ = some (.int .i64 n) := ck_cell hbk rfl
  have q6 : W0.cell? ⟨B1, 6, none⟩ = some (.int .u64 u) := ck_cell hbk rfl
  have q7 : W0.cell? ⟨B1, 7, none⟩ = some (.slice pa pl.length pc) := ck_cell hbk rfl
  have q8 : W0.cell? ⟨B1, 8, none⟩ = some (.slice da dl.length dc) := ck_cell hbk rfl
  have r0 : W0.cell? ⟨B3, 0, none⟩ = some (.bool f0) := ck_cell hbf rfl
  have r1 : W0.cell? ⟨B3, 1, none⟩ = some (.bool f1) := ck_cell hbf rfl
  have r2 : W0.cell? ⟨B3, 2, none⟩ = some (.bool f2) := ck_cell hbf rfl
  have r3 : W0.cell? ⟨B3, 3, none⟩ = some (.bool f3) := ck_cell hbf rfl
  have r4 : W0.cell? ⟨B3, 4, none⟩ = some (.bool f4) := ck_cell hbf rfl
  have r5 : W0.cell? ⟨B3, 5, none⟩ = some (.bool f5) := ck_cell hbf rfl
  have r6 : W0.cell? ⟨B3, 6, none⟩ = some (.bool f6) := ck_cell hbf rfl
  clear hbk hbf w2
  have hcl := Grow.cells (w := W0)
  obtain ⟨c1, Hc1⟩ : ∃ b, Hid (b = ck1 kn f0 nb eb) := ⟨_, Lib.hid rfl⟩
  obtain ⟨c2, Hc2⟩ : ∃ b, Hid (b = ck2 c1 f1 f2 lk1 lk0 ek) := ⟨_, Lib.hid rfl⟩
  obtain ⟨c3, Hc3⟩ : ∃ b, Hid (b = ck3 c2 f2 f4 la0 n1 n2 n3 n0 ea) := ⟨_, Lib.hid rfl⟩
  obtain ⟨c4, Hc4⟩ : ∃ b, Hid (b = ck4 c3 f3 f5 u0 rp l0) := ⟨_, Lib.hid rfl⟩
  have HR2 : Hid (right ⟨id, k, sb.data.toList, sk.data.toList, sa.data.toList, n, u, pl, dl⟩ = ck5 c4 f6 d1 d0) := Lib.hid (by rw [HR.out, Hc4.out, Hc3.out, Hc2.out, Hc1.out]; rfl)
  clear HR
  go_cut [5] from 6 to 157 (fun v wx => v = .bool c1 ∧ Below W0.heap.size W0 wx)
  case first =>
    clear HR2 HF Hc2 Hc3 Hc4
    clear HK1 HK0 HA0 Hri hek hea hn1 hn2 hn3 hn0 hu0 hl0 hl1 hd1 hd0 hd9 q1 q3 q4 q5 q6 q7 q8 r1 r2 r3 r4 r5 r6
    as_aux_lemma =>
    cases kn
    · go_wp2
      go_meet
      exact ⟨by rw [Hc1.out]; rfl, by (repeat (first | exact Below.refl _ _ | assumption | refine Below.drew ?_ | refine bDrewN ?_ | refine Below.setCell ?_ (by first | omega | (simp <;> omega)) _ | refine Below.alloc ?_ (by first | omega | (simp <;> omega)) _))⟩
    · cases f0
      · cases eb
        · go_wp2
          go_meet
          exact ⟨by rw [Hc1.out]; rfl, by (repeat (first | exact Below.refl _ _ | assumption | refine Below.drew ?_ | refine bDrewN ?_ | refine Below.setCell ?_ (by first | omega | (simp <;> omega)) _ | refine Below.alloc ?_ (by first | omega | (simp <;> omega)) _))⟩
        · go_wp2
          go_meet
          exact ⟨by rw [Hc1.out]; rfl, by (repeat (first | exact Below.refl _ _ | assumption | refine Below.drew ?_ | refine bDrewN ?_ | refine Below.setCell ?_ (by first | omega | (simp <;> omega)) _ | refine Below.alloc ?_ (by first | omega | (simp <;> omega)) _))⟩
      · cases nb
        · go_wp2_with fail
          (with_reducible refine (HN _).mono ?_)
          rintro e w9 ⟨rfl, hw9⟩
          have hw8 := hw9.symm
          subst hw8
          clear hw9
          go_wp2
          go_meet
          exact ⟨by rw [Hc1.out]; rfl, by (repeat (first | exact Below.refl _ _ | assumption | refine Below.drew ?_ | refine bDrewN ?_ | refine Below.setCell ?_ (by first | omega | (simp <;> omega)) _ | refine Below.alloc ?_ (by first | omega | (simp <;> omega)) _))⟩
        · go_wp2_with fail
          (with_reducible refine (HN _).mono ?_)
          rintro e w9 ⟨rfl, hw9⟩
          have hw8 := hw9.symm
          subst hw8
          clear hw9
          go_wp2
          go_meet
          exact ⟨by rw [Hc1.out]; rfl, by (repeat (first | exact Below.refl _ _ | assumption | refine Below.drew ?_ | refine bDrewN ?_ | refine Below.setCell ?_ (by first | omega | (simp <;> omega)) _ | refine Below.alloc ?_ (by first | omega | (simp <;> omega)) _))⟩
  case rest =>
  obtain ⟨rfl, hgw⟩ := hcut
  clear Hc1
  rename_i wy
  go_upto_block 0 with fail
  go_cut [5] from 6 to 157 (fun v wx => v = .bool c2 ∧ Below W0.heap.size W0 wx)
  case first =>
    clear HR2 HF Hc3 Hc4
    clear HN HA0 Hri heb hea hn1 hn2 hn3 hn0 hu0 hl0 hl1 hd1 hd0 hd9 q1 q2 q4 q5 q6 q7 q8 r0 r3 r4 r5 r6
    as_aux_lemma =>
    cases f1
    · cases f2
      · cases c1
        · go_wp2
          go_meet
          exact ⟨by rw [Hc2.out]; rfl, by (repeat (first | exact Below.refl _ _ | assumption | refine Below.drew ?_ | refine bDrewN ?_ | refine Below.setCell ?_ (by first | omega | (simp <;> omega)) _ | refine Below.alloc ?_ (by first | omega | (simp <;> omega)) _))⟩
        · cases ek
          · go_wp2
            go_meet
            exact ⟨by rw [Hc2.out]; rfl, by (repeat (first | exact Below.refl _ _ | assumption | refine Below.drew ?_ | refine bDrewN ?_ | refine Below.setCell ?_ (by first | omega | (simp <;> omega)) _ | refine Below.alloc ?_ (by first | omega | (simp <;> omega)) _))⟩
          · go_wp2
            go_meet
            exact ⟨by rw [Hc2.out]; rfl, by (repeat (first | exact Below.refl _ _ | assumption | refine Below.drew ?_ | refine bDrewN ?_ | refine Below.setCell ?_ (by first | omega | (simp <;> omega)) _ | refine Below.alloc ?_ (by first | omega | (simp <;> omega)) _))⟩
      · cases c1
        · go_wp2
          go_meet
          exact ⟨by rw [Hc2.out]; rfl, by (repeat (first | exact Below.refl _ _ | assumption | refine Below.drew ?_ | refine bDrewN ?_ | refine Below.setCell ?_ (by first | omega | (simp <;> omega)) _ | refine Below.alloc ?_ (by first | omega | (simp <;> omega)) _))⟩
        · cases lk0
          · go_wp2_with fail
            (with_reducible refine (HK0 _).mono ?_)
            rintro e w9 ⟨rfl, hw9⟩
            have hw8 := hw9.symm
            subst hw8
            clear hw9
            go_wp2
            go_meet
            exact ⟨by rw [Hc2.out]; rfl, by (repeat (first | exact Below.refl _ _ | assumption | refine Below.drew ?_ | refine bDrewN ?_ | refine Below.setCell ?_ (by first | omega | (simp <;> omega)) _ | refine Below.alloc ?_ (by first | omega | (simp <;> omega)) _))⟩
          · go_wp2_with fail
            (with_reducible refine (HK0 _).mono ?_)
            rintro e w9 ⟨rfl, hw9⟩
            have hw8 := hw9.symm
            subst hw8
            clear hw9
            go_wp2
            go_meet
            exact ⟨by rw [Hc2.out]; rfl, by (repeat (first | exact Below.refl _ _ | assumption | refine Below.drew ?_ | refine bDrewN ?_ | refine Below.setCell ?_ (by first | omega | (simp <;> omega)) _ | refine Below.alloc ?_ (by first | omega | (simp <;> omega)) _))⟩
    · cases c1
      · go_wp2
        go_meet
        exact ⟨by rw [Hc2.out]; rfl, by (repeat (first | exact Below.refl _ _ | assumption | refine Below.drew ?_ | refine bDrewN ?_ | refine Below.setCell ?_ (by first | omega | (simp <;> omega)) _ | refine Below.alloc ?_ (by first | omega | (simp <;> omega)) _))⟩
      · cases lk1
        · go_wp2_with fail
          (with_reducible refine (HK1 _).mono ?_)
          rintro e w9 ⟨rfl, hw9⟩
          have hw8 := hw9.symm
          subst hw8
          clear hw9
          go_wp2
          go_meet
          exact ⟨by rw [Hc2.out]; rfl, by (repeat (first | exact Below.refl _ _ | assumption | refine Below.drew ?_ | refine bDrewN ?_ | refine Below.setCell ?_ (by first | omega | (simp <;> omega)) _ | refine Below.alloc ?_ (by first | omega | (simp <;> omega)) _))⟩
        · go_wp2_with fail
          (with_reducible refine (HK1 _).mono ?_)
          rintro e w9 ⟨rfl, hw9⟩
          have hw8 := hw9.symm
          subst hw8
          clear hw9
          go_wp2
          go_meet
          exact ⟨by rw [Hc2.out]; rfl, by (repeat (first | exact Below.refl _ _ | assumption | refine Below.drew ?_ | refine bDrewN ?_ | refine Below.setCell ?_ (by first | omega | (simp <;> omega)) _ | refine Below.alloc ?_ (by first | omega | (simp <;> omega)) _))⟩
  case rest =>
  obtain ⟨rfl, hgw⟩ := hcut
  clear Hc2
  rename_i wy
  go_upto_block 1 with fail
  go_cut [5] from 6 to 157 (fun v wx => v = .bool c3 ∧ Below W0.heap.size W0 wx)
  case first =>
    clear HR2 HF Hc4
    clear HN HK1 HK0 Hri heb hek hu0 hl0 hl1 hd1 hd0 hd9 q1 q2 q3 q6 q7 q8 r0 r1 r3 r5 r6
    as_aux_lemma =>
    cases f2
    · cases f4
      · cases c2
        · go_wp2
          go_meet
          exact ⟨by rw [Hc3.out]; rfl, by (repeat (first | exact Below.refl _ _ | assumption | refine Below.drew ?_ | refine bDrewN ?_ | refine Below.setCell ?_ (by first | omega | (simp <;> omega)) _ | refine Below.alloc ?_ (by first | omega | (simp <;> omega)) _))⟩
        · cases ea
          · go_wp2
            go_meet
            exact ⟨by rw [Hc3.out]; rfl, by (repeat (first | exact Below.refl _ _ | assumption | refine Below.drew ?_ | refine bDrewN ?_ | refine Below.setCell ?_ (by first | omega | (simp <;> omega)) _ | refine Below.alloc ?_ (by first | omega | (simp <;> omega)) _))⟩
          · cases n0
            · go_wp2
              go_meet
              exact ⟨by rw [Hc3.out]; rfl, by (repeat (first | exact Below.refl _ _ | assumption | refine Below.drew ?_ | refine bDrewN ?_ | refine Below.setCell ?_ (by first | omega | (simp <;> omega)) _ | refine Below.alloc ?_ (by first | omega | (simp <;> omega)) _))⟩
            · go_wp2
              go_meet
              exact ⟨by rw [Hc3.out]; rfl, by (repeat (first | exact Below.refl _ _ | assumption | refine Below.drew ?_ | refine bDrewN ?_ | refine Below.setCell ?_ (by first | omega | (simp <;> omega)) _ | refine Below.alloc ?_ (by first | omega | (simp <;> omega)) _))⟩
      · cases c2
        · go_wp2
          go_meet
          exact ⟨by rw [Hc3.out]; rfl, by (repeat (first | exact Below.refl _ _ | assumption | refine Below.drew ?_ | refine bDrewN ?_ | refine Below.setCell ?_ (by first | omega | (simp <;> omega)) _ | refine Below.alloc ?_ (by first | omega | (simp <;> omega)) _))⟩
        · cases ea
          · go_wp2
            go_meet
            exact ⟨by rw [Hc3.out]; rfl, by (repeat (first | exact Below.refl _ _ | assumption | refine Below.drew ?_ | refine bDrewN ?_ | refine Below.setCell ?_ (by first | omega | (simp <;> omega)) _ | refine Below.alloc ?_ (by first | omega | (simp <;> omega)) _))⟩
          · cases n1
            · go_wp2
              go_meet
              exact ⟨by rw [Hc3.out]; rfl, by (repeat (first | exact Below.refl _ _ | assumption | refine Below.drew ?_ | refine bDrewN ?_ | refine Below.setCell ?_ (by first | omega | (simp <;> omega)) _ | refine Below.alloc ?_ (by first | omega | (simp <;> omega)) _))⟩
            · cases n3
              · go_wp2
                go_meet
                exact ⟨by rw [Hc3.out]; rfl, by (repeat (first | exact Below.refl _ _ | assumption | refine Below.drew ?_ | refine bDrewN ?_ | refine Below.setCell ?_ (by first | omega | (simp <;> omega)) _ | refine Below.alloc ?_ (by first | omega | (simp <;> omega)) _))⟩
              · go_wp2
                go_meet
                exact ⟨by rw [Hc3.out]; rfl, by (repeat (first | exact Below.refl _ _ | assumption | refine Below.drew ?_ | refine bDrewN ?_ | refine Below.setCell ?_ (by first | omega | (simp <;> omega)) _ | refine Below.alloc ?_ (by first | omega | (simp <;> omega)) _))⟩
    · cases c2
      · go_wp2
        go_meet
        exact ⟨by rw [Hc3.out]; rfl, by (repeat (first | exact Below.refl _ _ | assumption | refine Below.drew ?_ | refine bDrewN ?_ | refine Below.setCell ?_ (by first | omega | (simp <;> omega)) _ | refine Below.alloc ?_ (by first | omega | (simp <;> omega)) _))⟩
      · cases la0
        · go_wp2_with fail
          (with_reducible refine (HA0 _).mono ?_)
          rintro e w9 ⟨rfl, hw9⟩
          have hw8 := hw9.symm
          subst hw8
          clear hw9
          go_wp2
          go_meet
          exact ⟨by rw [Hc3.out]; rfl, by (repeat (first | exact Below.refl _ _ | assumption | refine Below.drew ?_ | refine bDrewN ?_ | refine Below.setCell ?_ (by first | omega | (simp <;> omega)) _ | refine Below.alloc ?_ (by first | omega | (simp <;> omega)) _))⟩
        · cases n1
          · go_wp2_with fail
            (with_reducible refine (HA0 _).mono ?_)
            rintro e w9 ⟨rfl, hw9⟩
            have hw8 := hw9.symm
            subst hw8
            clear hw9
            go_wp2
            go_meet
            exact ⟨by rw [Hc3.out]; rfl, by (repeat (first | exact Below.refl _ _ | assumption | refine Below.drew ?_ | refine bDrewN ?_ | refine Below.setCell ?_ (by first | omega | (simp <;> omega)) _ | refine Below.alloc ?_ (by first | omega | (simp <;> omega)) _))⟩
          · cases n2
            · go_wp2_with fail
              (with_reducible refine (HA0 _).mono ?_)
              rintro e w9 ⟨rfl, hw9⟩
              have hw8 := hw9.symm
              subst hw8
              clear hw9
              go_wp2
              go_meet
              exact ⟨by rw [Hc3.out]; rfl, by (repeat (first | exact Below.refl _ _ | assumption | refine Below.drew ?_ | refine bDrewN ?_ | refine Below.setCell ?_ (by first | omega | (simp <;> omega)) _ | refine Below.alloc ?_ (by first | omega | (simp <;> omega)) _))⟩
            · go_wp2_with fail
              (with_reducible refine (HA0 _).mono ?_)
              rintro e w9 ⟨rfl, hw9⟩
              have hw8 := hw9.symm
              subst hw8
              clear hw9
              go_wp2
              go_meet
              exact ⟨by rw [Hc3.out]; rfl, by (repeat (first | exact Below.refl _ _ | assumption | refine Below.drew ?_ | refine bDrewN ?_ | refine Below.setCell ?_ (by first | omega | (simp <;> omega)) _ | refine Below.alloc ?_ (by first | omega | (simp <;> omega)) _))⟩
  case rest =>
  obtain ⟨rfl, hgw⟩ := hcut
  clear Hc3
  rename_i wy
  go_upto_region 13 with fail
  go_cut [5] from 6 to 157 (fun v wx => v = .bool c4 ∧ Below W0.heap.size W0 wx)
  case first =>
    clear HR2 HF 
    clear HN HK1 HK0 HA0 heb hek hea hn1 hn2 hn3 hn0 hd1 hd0 hd9 q1 q2 q3 q4 q5 q8 r0 r1 r2 r4 r6
    as_aux_lemma =>
    cases c3
    · go_wp2
      go_meet
      exact ⟨by rw [Hc4.out]; rfl, by (repeat (first | exact Below.refl _ _ | assumption | refine Below.drew ?_ | refine bDrewN ?_ | refine Below.setCell ?_ (by first | omega | (simp <;> omega)) _ | refine Below.alloc ?_ (by first | omega | (simp <;> omega)) _))⟩
    · cases f3
      · cases u0
        · go_wp2
          go_meet
          exact ⟨by rw [Hc4.out]; rfl, by (repeat (first | exact Below.refl _ _ | assumption | refine Below.drew ?_ | refine bDrewN ?_ | refine Below.setCell ?_ (by first | omega | (simp <;> omega)) _ | refine Below.alloc ?_ (by first | omega | (simp <;> omega)) _))⟩
        · cases f5
          · cases l0
            · go_wp2
              go_meet
              exact ⟨by rw [Hc4.out]; rfl, by (repeat (first | exact Below.refl _ _ | assumption | refine Below.drew ?_ | refine bDrewN ?_ | refine Below.setCell ?_ (by first | omega | (simp <;> omega)) _ | refine Below.alloc ?_ (by first | omega | (simp <;> omega)) _))⟩
            · go_wp2
              go_meet
              exact ⟨by rw [Hc4.out]; rfl, by (repeat (first | exact Below.refl _ _ | assumption | refine Below.drew ?_ | refine bDrewN ?_ | refine Below.setCell ?_ (by first | omega | (simp <;> omega)) _ | refine Below.alloc ?_ (by first | omega | (simp <;> omega)) _))⟩
          · cases rp
            · go_wp2_with fail
              (with_reducible refine (Hri.out _ (HG.out.trans (by assumption))).mono ?_)
              rintro e w9 ⟨rfl, hw9⟩
              have hg9 : Grow W0 w9 := Grow.trans hgw hw9
              go_wp2
              go_meet
              exact ⟨by rw [Hc4.out]; rfl, by (repeat (first | exact Below.refl _ _ | assumption | refine Below.drew ?_ | refine bDrewN ?_ | refine Below.setCell ?_ (by first | omega | (simp <;> omega)) _ | refine Below.alloc ?_ (by first | omega | (simp <;> omega)) _))⟩
            · go_wp2_with fail
              (with_reducible refine (Hri.out _ (HG.out.trans (by assumption))).mono ?_)
              rintro e w9 ⟨rfl, hw9⟩
              have hg9 : Grow W0 w9 := Grow.trans hgw hw9
              go_wp2
              go_meet
              exact ⟨by rw [Hc4.out]; rfl, by (repeat (first | exact Below.refl _ _ | assumption | refine Below.drew ?_ | refine bDrewN ?_ | refine Below.setCell ?_ (by first | omega | (simp <;> omega)) _ | refine Below.alloc ?_ (by first | omega | (simp <;> omega)) _))⟩
      · cases f5
        · cases l0
          · go_wp2
            go_meet
            exact ⟨by rw [Hc4.out]; rfl, by (repeat (first | exact Below.refl _ _ | assumption | refine Below.drew ?_ | refine bDrewN ?_ | refine Below.setCell ?_ (by first | omega | (simp <;> omega)) _ | refine Below.alloc ?_ (by first | omega | (simp <;> omega)) _))⟩
          · go_wp2
            go_meet
            exact ⟨by rw [Hc4.out]; rfl, by (repeat (first | exact Below.refl _ _ | assumption | refine Below.drew ?_ | refine bDrewN ?_ | refine Below.setCell ?_ (by first | omega | (simp <;> omega)) _ | refine Below.alloc ?_ (by first | omega | (simp <;> omega)) _))⟩
        · cases rp
          · go_wp2_with fail
            (with_reducible refine (Hri.out _ (HG.out.trans (by assumption))).mono ?_)
            rintro e w9 ⟨rfl, hw9⟩
            have hg9 : Grow W0 w9 := Grow.trans hgw hw9
            go_wp2
            go_meet
            exact ⟨by rw [Hc4.out]; rfl, by (repeat (first | exact Below.refl _ _ | assumption | refine Below.drew ?_ | refine bDrewN ?_ | refine Below.setCell ?_ (by first | omega | (simp <;> omega)) _ | refine Below.alloc ?_ (by first | omega | (simp <;> omega)) _))⟩
          · go_wp2_with fail
            (with_reducible refine (Hri.out _ (HG.out.trans (by assumption))).mono ?_)
            rintro e w9 ⟨rfl, hw9⟩
            have hg9 : Grow W0 w9 := Grow.trans hgw hw9
            go_wp2
            go_meet
            exact ⟨by rw [Hc4.out]; rfl, by (repeat (first | exact Below.refl _ _ | assumption | refine Below.drew ?_ | refine bDrewN ?_ | refine Below.setCell ?_ (by first | omega | (simp <;> omega)) _ | refine Below.alloc ?_ (by first | omega | (simp <;> omega)) _))⟩
  case rest =>
  obtain ⟨rfl, hgw⟩ := hcut
  clear Hc4
  rename_i wy
  as_aux_lemma =>
  cases c4
  · go_wp2
    go_ret
    exact ⟨by rw [HR2.out]; rfl, HG.out.trans (by (repeat (first | exact Below.refl _ _ | assumption | refine Below.drew ?_ | refine bDrewN ?_ | refine Below.setCell ?_ (by first | omega | (simp <;> omega)) _ | refine Below.alloc ?_ (by first | omega | (simp <;> omega)) _)))⟩
  · cases f6
    · cases d0
      · go_wp2
        go_ret
        exact ⟨by rw [HR2.out]; rfl, HG.out.trans (by (repeat (first | exact Below.refl _ _ | assumption | refine Below.drew ?_ | refine bDrewN ?_ | refine Below.setCell ?_ (by first | omega | (simp <;> omega)) _ | refine Below.alloc ?_ (by first | omega | (simp <;> omega)) _)))⟩
      · go_wp2
        go_ret
        exact ⟨by rw [HR2.out]; rfl, HG.out.trans (by (repeat (first | exact Below.refl _ _ | assumption | refine Below.drew ?_ | refine bDrewN ?_ | refine Below.setCell ?_ (by first | omega | (simp <;> omega)) _ | refine Below.alloc ?_ (by first | omega | (simp <;> omega)) _)))⟩
    · cases d1
      · go_wp2
        go_ret
        exact ⟨by rw [HR2.out]; rfl, HG.out.trans (by (repeat (first | exact Below.refl _ _ | assumption | refine Below.drew ?_ | refine bDrewN ?_ | refine Below.setCell ?_ (by first | omega | (simp <;> omega)) _ | refine Below.alloc ?_ (by first | omega | (simp <;> omega)) _)))⟩
      · go_wp2
        go_ret
        exact ⟨by rw [HR2.out]; rfl, HG.out.trans (by (repeat (first | exact Below.refl _ _ | assumption | refine Below.drew ?_ | refine bDrewN ?_ | refine Below.setCell ?_ (by first | omega | (simp <;> omega)) _ | refine Below.alloc ?_ (by first | omega | (simp <;> omega)) _)))⟩
end Go.Proofs.YtdegmpimcappjaaGreatDoor
