/- Merged out of YO: helpers. -/
import Derived.Test.YtdegmpimcappjaaGreatDoorFYJ
/- The document's check of an operation, some kinds. -/
namespace Go.Proofs.YtdegmpimcappjaaGreatDoor
open Go.RowKit Go.Gl Go.Front

set_option maxRecDepth 100000 in
set_option maxHeartbeats 16000000 in
theorem checkD_9 {w : World} {id : Nat} {sb sk sa : ByteArray} {n : Int} {u : Nat} {pv dv : Value} {pl : List Int} {dl0 : List UInt8} (hp : Iv w pv pl) (hd : Bv w dv dl0) (hb : sb.size ≤ 9223372036854775807) (hmax : pl.length ≤ 9223372036854775807) :
    Calls Tryz.prog 22 #[.agg #[.int .u64 id, .int .i64 9, .string sb, .string sk, .string sa, .int .i64 n, .int .u64 u, pv, dv]] w fun e w' => e = .returned (.int .i64 (errD (right ⟨id, 9, sb.data.toList, sk.data.toList, sa.data.toList, n, u, pl, dl0⟩))) ∧ Grow w w' := by
  obtain ⟨pa, pc, rfl, hpv⟩ := hp
  obtain ⟨da, dc, rfl, hdl, hdm, hdn, hdv⟩ := hd
  have Hpv : Hid (Iv w (.slice pa pl.length pc) pl) := Lib.hid ⟨pa, pc, rfl, hpv⟩
  clear hpv hdv hdl hdm hdn
  obtain ⟨nb, HNb⟩ : ∃ b, Hid (b = nameB sb.data.toList) := ⟨_, Lib.hid rfl⟩
  obtain ⟨kb, HKb⟩ : ∃ b, Hid (b = (decide ((1 : Int) ≤ (sk.size : Int)) && decide ((sk.size : Int) ≤ 1024))) := ⟨_, Lib.hid rfl⟩
  obtain ⟨pb, HPb⟩ : ∃ b, Hid (b = partsB pl) := ⟨_, Lib.hid rfl⟩
  have HN : ∀ W, Calls Tryz.prog 54 #[.string sb] W fun e W' => e = .returned (.bool nb) ∧ W' = W := fun W => by rw [HNb.out]; exact nameR_any sb W hb
  have HK : ∀ W, Calls Tryz.prog 55 #[.string sk] W fun e W' => e = .returned (.bool kb) ∧ W' = W := fun W => by rw [HKb.out]; exact keyR_any sk W
  have HP : Hid (∀ W, Grow w W → Calls Tryz.prog 56 #[.slice pa pl.length pc] W fun e W' => e = .returned (.bool pb) ∧ Grow W W') := Lib.hid (fun W hW => by rw [HPb.out]; exact partsR_any (Hpv.out.grow hW) hmax)
  clear hb hmax
  obtain ⟨eb, heb⟩ : ∃ b, sb.toList.isEmpty = b := ⟨_, rfl⟩
  obtain ⟨ek, hek⟩ : ∃ b, sk.toList.isEmpty = b := ⟨_, rfl⟩
  obtain ⟨ea, hea⟩ : ∃ b, sa.toList.isEmpty = b := ⟨_, rfl⟩
  obtain ⟨n1, hn1⟩ : ∃ b, decide (1 ≤ n) = b := ⟨_, rfl⟩
  obtain ⟨n2, hn2⟩ : ∃ b, decide (n ≤ 1000) = b := ⟨_, rfl⟩
  obtain ⟨n3, hn3⟩ : ∃ b, decide (n ≤ 10000) = b := ⟨_, rfl⟩
  obtain ⟨n0, hn0⟩ : ∃ b, (n != 0) = b := ⟨_, rfl⟩
  obtain ⟨u0, hu0⟩ : ∃ b, ((u : Int) != 0) = b := ⟨_, rfl⟩
  obtain ⟨p1, hp1⟩ : ∃ b, decide (0 < pl.length) = b := ⟨_, rfl⟩
  obtain ⟨d1, hd1⟩ : ∃ b, decide (0 < dl0.length) = b := ⟨_, rfl⟩
  obtain ⟨dl, hdl⟩ : ∃ b, decide ((dl0.length : Int) ≤ 16777216) = b := ⟨_, rfl⟩
  obtain ⟨lk, hlk⟩ : ∃ b, decide ((sk.size : Int) ≤ 1024) = b := ⟨_, rfl⟩
  obtain ⟨la, hla⟩ : ∃ b, decide ((sa.size : Int) ≤ 1024) = b := ⟨_, rfl⟩
  obtain ⟨ok, Hok⟩ : ∃ b, Hid (b = right ⟨id, 9, sb.data.toList, sk.data.toList, sa.data.toList, n, u, pl, dl0⟩) := ⟨_, Lib.hid rfl⟩
  have HC : Hid (ok = (eb && ek && ea && !n0 && pb && !d1)) := Lib.hid (by
    have a1 : keyB sk.data.toList = kb := by rw [HKb.out]; unfold keyB; rw [str_len, Bool.eq_iff_iff]; simp; omega
    have a2 : decide (sk.data.toList.length ≤ 1024) = lk := by rw [← hlk, str_len, Bool.eq_iff_iff]; simp; omega
    have a3 : decide (sa.data.toList.length ≤ 1024) = la := by rw [← hla, str_len, Bool.eq_iff_iff]; simp; omega
    have a4 : decide (n = 0) = !n0 := by rw [← hn0, Bool.eq_iff_iff]; simp
    have a5 : decide (u = 0) = !u0 := by rw [← hu0, Bool.eq_iff_iff]; simp
    have a6 : decide (pl = []) = !p1 := by rw [← hp1, Bool.eq_iff_iff]; simp
    have a7 : decide (dl0 = []) = !d1 := by rw [← hd1, Bool.eq_iff_iff]; simp
    have a8 : decide (dl0.length ≤ 16777216) = dl := by rw [← hdl, Bool.eq_iff_iff]; simp; omega
    have a9 : decide (sb.data.toList = []) = eb := by rw [← emp_str]; exact heb
    have a10 : decide (sk.data.toList = []) = ek := by rw [← emp_str]; exact hek
    have a11 : decide (sa.data.toList = []) = ea := by rw [← emp_str]; exact hea
    have a12 := HNb.out
    have a13 := HPb.out
    rw [Hok.out, rightD_9 _ rfl]
    simp only [a4, a7, a9, a10, a11, ← a13])
  clear HNb HKb HPb
  go_enter Tryz.func22, Tryz.ntmps22
  go_upto_block 0 with fail
  have hbk := heap_alloc_new w (.cells #[.int .u64 id, .int .i64 9, .string sb, .string sk, .string sa, .int .i64 n, .int .u64 u, .slice pa pl.length pc, .slice da dl0.length dc] 26)
  have hg0 := Grow.alloc w (.cells #[.int .u64 id, .int .i64 9, .string sb, .string sk, .string sa, .int .i64 n, .int .u64 u, .slice pa pl.length pc, .slice da dl0.length dc] 26)
  generalize w.alloc (.cells #[.int .u64 id, .int .i64 9, .string sb, .string sk, .string sa, .int .i64 n, .int .u64 u, .slice pa pl.length pc, .slice da dl0.length dc] 26) = W0 at *
  have HG := Lib.hid hg0
  have lb1 : w.heap.size < W0.heap.size := lt_of_getElem? hbk
  clear hg0
  generalize w.heap.size = B1 at *
  have q2 : W0.cell? ⟨B1, 2, none⟩ = some (.string sb) := ck_cell1 hbk rfl
  have q3 : W0.cell? ⟨B1, 3, none⟩ = some (.string sk) := ck_cell1 hbk rfl
  have q4 : W0.cell? ⟨B1, 4, none⟩ = some (.string sa) := ck_cell1 hbk rfl
  have q5 : W0.cell? ⟨B1, 5, none⟩ = some (.int .i64 n) := ck_cell1 hbk rfl
  have q6 : W0.cell? ⟨B1, 6, none⟩ = some (.int .u64 u) := ck_cell1 hbk rfl
  have q7 : W0.cell? ⟨B1, 7, none⟩ = some (.slice pa pl.length pc) := ck_cell1 hbk rfl
  have q8 : W0.cell? ⟨B1, 8, none⟩ = some (.slice da dl0.length dc) := ck_cell1 hbk rfl
  clear hbk heb hek hea hn0 hu0 hp1 hd1
  have hcl := Grow.cells (w := W0)
  go_cut [10] from 36 to 251 (fun v wx => v = .bool ok ∧ Grow W0 wx)
  case first =>
    clear Hok
    go_upto_region 24 with fail
    as_aux_lemma =>
    cases eb
    · go_wp2
      go_meet
      exact ⟨by rw [HC.out]; rfl, by (repeat (first | exact Below.refl _ _ | assumption | refine Below.drew ?_ | refine bDrewN ?_ | refine Below.setCell ?_ (by first | omega | (simp <;> omega)) _ | refine Below.alloc ?_ (by first | omega | (simp <;> omega)) _))⟩
    · cases ek
      · go_wp2
        go_meet
        exact ⟨by rw [HC.out]; rfl, by (repeat (first | exact Below.refl _ _ | assumption | refine Below.drew ?_ | refine bDrewN ?_ | refine Below.setCell ?_ (by first | omega | (simp <;> omega)) _ | refine Below.alloc ?_ (by first | omega | (simp <;> omega)) _))⟩
      · cases ea
        · go_wp2
          go_meet
          exact ⟨by rw [HC.out]; rfl, by (repeat (first | exact Below.refl _ _ | assumption | refine Below.drew ?_ | refine bDrewN ?_ | refine Below.setCell ?_ (by first | omega | (simp <;> omega)) _ | refine Below.alloc ?_ (by first | omega | (simp <;> omega)) _))⟩
        · cases n0
          · cases pb
            · go_wp2_with fail
              (with_reducible refine (HP.out _ HG.out).mono ?_)
              rintro e w9 ⟨rfl, hg9⟩
              go_wp2
              go_meet
              exact ⟨by rw [HC.out]; rfl, by (repeat (first | exact Below.refl _ _ | assumption | refine Below.drew ?_ | refine bDrewN ?_ | refine Below.setCell ?_ (by first | omega | (simp <;> omega)) _ | refine Below.alloc ?_ (by first | omega | (simp <;> omega)) _))⟩
            · cases d1
              · go_wp2_with fail
                (with_reducible refine (HP.out _ HG.out).mono ?_)
                rintro e w9 ⟨rfl, hg9⟩
                go_wp2
                go_meet
                exact ⟨by rw [HC.out]; rfl, by (repeat (first | exact Below.refl _ _ | assumption | refine Below.drew ?_ | refine bDrewN ?_ | refine Below.setCell ?_ (by first | omega | (simp <;> omega)) _ | refine Below.alloc ?_ (by first | omega | (simp <;> omega)) _))⟩
              · go_wp2_with fail
                (with_reducible refine (HP.out _ HG.out).mono ?_)
                rintro e w9 ⟨rfl, hg9⟩
                go_wp2
                go_meet
                exact ⟨by rw [HC.out]; rfl, by (repeat (first | exact Below.refl _ _ | assumption | refine Below.drew ?_ | refine bDrewN ?_ | refine Below.setCell ?_ (by first | omega | (simp <;> omega)) _ | refine Below.alloc ?_ (by first | omega | (simp <;> omega)) _))⟩
          · go_wp2
            go_meet
            exact ⟨by rw [HC.out]; rfl, by (repeat (first | exact Below.refl _ _ | assumption | refine Below.drew ?_ | refine bDrewN ?_ | refine Below.setCell ?_ (by first | omega | (simp <;> omega)) _ | refine Below.alloc ?_ (by first | omega | (simp <;> omega)) _))⟩
  case rest =>
  obtain ⟨rfl, hgw⟩ := hcut
  clear HC
  as_aux_lemma =>
  cases ok
  · go_wp2
    go_ret
    exact ⟨by rw [← Hok.out]; rfl, HG.out.trans (by (repeat (first | exact Below.refl _ _ | assumption | refine Below.drew ?_ | refine bDrewN ?_ | refine Below.setCell ?_ (by first | omega | (simp <;> omega)) _ | refine Below.alloc ?_ (by first | omega | (simp <;> omega)) _)))⟩
  · go_wp2
    go_ret
    exact ⟨by rw [← Hok.out]; rfl, HG.out.trans (by (repeat (first | exact Below.refl _ _ | assumption | refine Below.drew ?_ | refine bDrewN ?_ | refine Below.setCell ?_ (by first | omega | (simp <;> omega)) _ | refine Below.alloc ?_ (by first | omega | (simp <;> omega)) _)))⟩

set_option maxRecDepth 100000 in
set_option maxHeartbeats 16000000 in
theorem checkD_10 {w : World} {id : Nat} {sb sk sa : ByteArray} {n : Int} {u : Nat} {pv dv : Value} {pl : List Int} {dl0 : List UInt8} (hp : Iv w pv pl) (hd : Bv w dv dl0) (hb : sb.size ≤ 9223372036854775807) (hmax : pl.length ≤ 9223372036854775807) :
    Calls Tryz.prog 22 #[.agg #[.int .u64 id, .int .i64 10, .string sb, .string sk, .string sa, .int .i64 n, .int .u64 u, pv, dv]] w fun e w' => e = .returned (.int .i64 (errD (right ⟨id, 10, sb.data.toList, sk.data.toList, sa.data.toList, n, u, pl, dl0⟩))) ∧ Grow w w' := by
  obtain ⟨pa, pc, rfl, hpv⟩ := hp
  obtain ⟨da, dc, rfl, hdl, hdm, hdn, hdv⟩ := hd
  have Hpv : Hid (Iv w (.slice pa pl.length pc) pl) := Lib.hid ⟨pa, pc, rfl, hpv⟩
  clear hpv hdv hdl hdm hdn
  obtain ⟨nb, HNb⟩ : ∃ b, Hid (b = nameB sb.data.toList) := ⟨_, Lib.hid rfl⟩
  obtain ⟨kb, HKb⟩ : ∃ b, Hid (b = (decide ((1 : Int) ≤ (sk.size : Int)) && decide ((sk.size : Int) ≤ 1024))) := ⟨_, Lib.hid rfl⟩
  obtain ⟨pb, HPb⟩ : ∃ b, Hid (b = partsB pl) := ⟨_, Lib.hid rfl⟩
  have HN : ∀ W, Calls Tryz.prog 54 #[.string sb] W fun e W' => e = .returned (.bool nb) ∧ W' = W := fun W => by rw [HNb.out]; exact nameR_any sb W hb
  have HK : ∀ W, Calls Tryz.prog 55 #[.string sk] W fun e W' => e = .returned (.bool kb) ∧ W' = W := fun W => by rw [HKb.out]; exact keyR_any sk W
  have HP : Hid (∀ W, Grow w W → Calls Tryz.prog 56 #[.slice pa pl.length pc] W fun e W' => e = .returned (.bool pb) ∧ Grow W W') := Lib.hid (fun W hW => by rw [HPb.out]; exact partsR_any (Hpv.out.grow hW) hmax)
  clear hb hmax
  obtain ⟨eb, heb⟩ : ∃ b, sb.toList.isEmpty = b := ⟨_, rfl⟩
  obtain ⟨ek, hek⟩ : ∃ b, sk.toList.isEmpty = b := ⟨_, rfl⟩
  obtain ⟨ea, hea⟩ : ∃ b, sa.toList.isEmpty = b := ⟨_, rfl⟩
  obtain ⟨n1, hn1⟩ : ∃ b, decide (1 ≤ n) = b := ⟨_, rfl⟩
  obtain ⟨n2, hn2⟩ : ∃ b, decide (n ≤ 1000) = b := ⟨_, rfl⟩
  obtain ⟨n3, hn3⟩ : ∃ b, decide (n ≤ 10000) = b := ⟨_, rfl⟩
  obtain ⟨n0, hn0⟩ : ∃ b, (n != 0) = b := ⟨_, rfl⟩
  obtain ⟨u0, hu0⟩ : ∃ b, ((u : Int) != 0) = b := ⟨_, rfl⟩
  obtain ⟨p1, hp1⟩ : ∃ b, decide (0 < pl.length) = b := ⟨_, rfl⟩
  obtain ⟨d1, hd1⟩ : ∃ b, decide (0 < dl0.length) = b := ⟨_, rfl⟩
  obtain ⟨dl, hdl⟩ : ∃ b, decide ((dl0.length : Int) ≤ 16777216) = b := ⟨_, rfl⟩
  obtain ⟨lk, hlk⟩ : ∃ b, decide ((sk.size : Int) ≤ 1024) = b := ⟨_, rfl⟩
  obtain ⟨la, hla⟩ : ∃ b, decide ((sa.size : Int) ≤ 1024) = b := ⟨_, rfl⟩
  obtain ⟨ok, Hok⟩ : ∃ b, Hid (b = right ⟨id, 10, sb.data.toList, sk.data.toList, sa.data.toList, n, u, pl, dl0⟩) := ⟨_, Lib.hid rfl⟩
  have HC : Hid (ok = (eb && ek && ea && !n0 && !p1 && !d1)) := Lib.hid (by
    have a1 : keyB sk.data.toList = kb := by rw [HKb.out]; unfold keyB; rw [str_len, Bool.eq_iff_iff]; simp; omega
    have a2 : decide (sk.data.toList.length ≤ 1024) = lk := by rw [← hlk, str_len, Bool.eq_iff_iff]; simp; omega
    have a3 : decide (sa.data.toList.length ≤ 1024) = la := by rw [← hla, str_len, Bool.eq_iff_iff]; simp; omega
    have a4 : decide (n = 0) = !n0 := by rw [← hn0, Bool.eq_iff_iff]; simp
    have a5 : decide (u = 0) = !u0 := by rw [← hu0, Bool.eq_iff_iff]; simp
    have a6 : decide (pl = []) = !p1 := by rw [← hp1, Bool.eq_iff_iff]; simp
    have a7 : decide (dl0 = []) = !d1 := by rw [← hd1, Bool.eq_iff_iff]; simp
    have a8 : decide (dl0.length ≤ 16777216) = dl := by rw [← hdl, Bool.eq_iff_iff]; simp; omega
    have a9 : decide (sb.data.toList = []) = eb := by rw [← emp_str]; exact heb
    have a10 : decide (sk.data.toList = []) = ek := by rw [← emp_str]; exact hek
    have a11 : decide (sa.data.toList = []) = ea := by rw [← emp_str]; exact hea
    have a12 := HNb.out
    have a13 := HPb.out
    rw [Hok.out, rightD_10 _ rfl]
    simp only [a4, a6, a7, a9, a10, a11])
  clear HNb HKb HPb
  go_enter Tryz.func22, Tryz.ntmps22
  go_upto_block 0 with fail
  have hbk := heap_alloc_new w (.cells #[.int .u64 id, .int .i64 10, .string sb, .string sk, .string sa, .int .i64 n, .int .u64 u, .slice pa pl.length pc, .slice da dl0.length dc] 26)
  have hg0 := Grow.alloc w (.cells #[.int .u64 id, .int .i64 10, .string sb, .string sk, .string sa, .int .i64 n, .int .u64 u, .slice pa pl.length pc, .slice da dl0.length dc] 26)
  generalize w.alloc (.cells #[.int .u64 id, .int .i64 10, .string sb, .string sk, .string sa, .int .i64 n, .int .u64 u, .slice pa pl.length pc, .slice da dl0.length dc] 26) = W0 at *
  have HG := Lib.hid hg0
  have lb1 : w.heap.size < W0.heap.size := lt_of_getElem? hbk
  clear hg0
  generalize w.heap.size = B1 at *
  have q2 : W0.cell? ⟨B1, 2, none⟩ = some (.string sb) := ck_cell1 hbk rfl
  have q3 : W0.cell? ⟨B1, 3, none⟩ = some (.string sk) := ck_cell1 hbk rfl
  have q4 : W0.cell? ⟨B1, 4, none⟩ = some (.string sa) := ck_cell1 hbk rfl
  have q5 : W0.cell? ⟨B1, 5, none⟩ = some (.int .i64 n) := ck_cell1 hbk rfl
  have q6 : W0.cell? ⟨B1, 6, none⟩ = some (.int .u64 u) := ck_cell1 hbk rfl
  have q7 : W0.cell? ⟨B1, 7, none⟩ = some (.slice pa pl.length pc) := ck_cell1 hbk rfl
  have q8 : W0.cell? ⟨B1, 8, none⟩ = some (.slice da dl0.length dc) := ck_cell1 hbk rfl
  clear hbk heb hek hea hn0 hu0 hp1 hd1
  have hcl := Grow.cells (w := W0)
  go_cut [10] from 36 to 251 (fun v wx => v = .bool ok ∧ Grow W0 wx)
  case first =>
    clear Hok
    go_upto_region 26 with fail
    as_aux_lemma =>
    cases eb
    · go_wp2
      go_meet
      exact ⟨by rw [HC.out]; rfl, by (repeat (first | exact Below.refl _ _ | assumption | refine Below.drew ?_ | refine bDrewN ?_ | refine Below.setCell ?_ (by first | omega | (simp <;> omega)) _ | refine Below.alloc ?_ (by first | omega | (simp <;> omega)) _))⟩
    · cases ek
      · go_wp2
        go_meet
        exact ⟨by rw [HC.out]; rfl, by (repeat (first | exact Below.refl _ _ | assumption | refine Below.drew ?_ | refine bDrewN ?_ | refine Below.setCell ?_ (by first | omega | (simp <;> omega)) _ | refine Below.alloc ?_ (by first | omega | (simp <;> omega)) _))⟩
      · cases ea
        · go_wp2
          go_meet
          exact ⟨by rw [HC.out]; rfl, by (repeat (first | exact Below.refl _ _ | assumption | refine Below.drew ?_ | refine bDrewN ?_ | refine Below.setCell ?_ (by first | omega | (simp <;> omega)) _ | refine Below.alloc ?_ (by first | omega | (simp <;> omega)) _))⟩
        · cases n0
          · cases p1
            · cases d1
              · go_wp2
                go_meet
                exact ⟨by rw [HC.out]; rfl, by (repeat (first | exact Below.refl _ _ | assumption | refine Below.drew ?_ | refine bDrewN ?_ | refine Below.setCell ?_ (by first | omega | (simp <;> omega)) _ | refine Below.alloc ?_ (by first | omega | (simp <;> omega)) _))⟩
              · go_wp2
                go_meet
                exact ⟨by rw [HC.out]; rfl, by (repeat (first | exact Below.refl _ _ | assumption | refine Below.drew ?_ | refine bDrewN ?_ | refine Below.setCell ?_ (by first | omega | (simp <;> omega)) _ | refine Below.alloc ?_ (by first | omega | (simp <;> omega)) _))⟩
            · go_wp2
              go_meet
              exact ⟨by rw [HC.out]; rfl, by (repeat (first | exact Below.refl _ _ | assumption | refine Below.drew ?_ | refine bDrewN ?_ | refine Below.setCell ?_ (by first | omega | (simp <;> omega)) _ | refine Below.alloc ?_ (by first | omega | (simp <;> omega)) _))⟩
          · go_wp2
            go_meet
            exact ⟨by rw [HC.out]; rfl, by (repeat (first | exact Below.refl _ _ | assumption | refine Below.drew ?_ | refine bDrewN ?_ | refine Below.setCell ?_ (by first | omega | (simp <;> omega)) _ | refine Below.alloc ?_ (by first | omega | (simp <;> omega)) _))⟩
  case rest =>
  obtain ⟨rfl, hgw⟩ := hcut
  clear HC
  as_aux_lemma =>
  cases ok
  · go_wp2
    go_ret
    exact ⟨by rw [← Hok.out]; rfl, HG.out.trans (by (repeat (first | exact Below.refl _ _ | assumption | refine Below.drew ?_ | refine bDrewN ?_ | refine Below.setCell ?_ (by first | omega | (simp <;> omega)) _ | refine Below.alloc ?_ (by first | omega | (simp <;> omega)) _)))⟩
  · go_wp2
    go_ret
    exact ⟨by rw [← Hok.out]; rfl, HG.out.trans (by (repeat (first | exact Below.refl _ _ | assumption | refine Below.drew ?_ | refine bDrewN ?_ | refine Below.setCell ?_ (by first | omega | (simp <;> omega)) _ | refine Below.alloc ?_ (by first | omega | (simp <;> omega)) _)))⟩

end Go.Proofs.YtdegmpimcappjaaGreatDoor
