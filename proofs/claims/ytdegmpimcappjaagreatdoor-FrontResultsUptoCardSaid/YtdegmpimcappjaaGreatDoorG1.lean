/- Merged out of YT, YU, YV, Z0, Z01, Z1, Z11, Z2, Z3, Z4, Z5, Z6: helpers. -/
import Derived.Test.YtdegmpimcappjaaGreatDoorFYR
import Derived.Test.YtdegmpimcappjaaGreatDoorFYS
import Derived.Test.YtdegmpimcappjaaGreatDoorFB
import Derived.Test.YtdegmpimcappjaaGreatDoorFYK
import Derived.Test.YtdegmpimcappjaaGreatDoorFYL
import Derived.Test.YtdegmpimcappjaaGreatDoorFYM
import Derived.Test.YtdegmpimcappjaaGreatDoorFYN
import Derived.Test.YtdegmpimcappjaaGreatDoorFYO
import Derived.Lib.SplitLaws
import Derived.Maps.Own
import Derived.Maps.Views
/- An append to a converted text; the program's target of any right request. -/
namespace Go.Proofs.YtdegmpimcappjaaGreatDoor
open Go.RowKit Go.Gl Go.Front

theorem bv_block {w : World} {g cap : Nat} {cur : Array Value} {f : Nat × Nat} {l : List UInt8} (hg : w.heap[g]? = some (.cells cur 5 f)) (htk : cur.toList.take l.length = bcells l) (hl : l.length ≤ cap) (hm : cap ≤ maxLen) :
    Bv w (.slice (some ⟨g, 0, none⟩) l.length cap) l := by
  refine ⟨some ⟨g, 0, none⟩, cap, rfl, hl, hm, (fun h => by cases h), .inr ⟨g, 0, rfl, lt_of_getElem? hg, fun j k hk => ?_⟩⟩
  have h1 : (bcells l)[j]? = some (.int .u8 k.toNat) := by simp [bcells, hk]
  rw [← htk, List.getElem?_take] at h1
  split at h1
  · simp only [World.cell?, hg]
    simpa using h1
  · cases h1

theorem append_conv {w : World} {g cap : Nat} {cur : Array Value} {f : Nat × Nat} {xs : List UInt8} (hg : w.heap[g]? = some (.cells cur 5 f)) (hcc : cap ≤ cur.size)
    (hfz : ∀ j, j < cur.size → w.frozen? ⟨g, j, none⟩ = false) (htk : cur.toList.take xs.length = bcells xs) (hcm : cap ≤ maxLen) {pv : Value} {p : List UInt8} (hp : Bv w pv p) (hlen : xs.length + p.length ≤ 140737488355328) :
    ∃ v' w', (Builtin.append_ #[24, 24] 24 #[.slice (some ⟨g, 0, none⟩) xs.length cap, pv]).run Tryz.prog w = .ok v' w' ∧ Bv w' v' (xs ++ p) ∧ w.grownBy w' (some g) := by
  obtain ⟨i, hi0, hzz, hsz, hbb⟩ := info_parts Tryz.infoB
  have hs : Src Tryz.prog i.size 24 pv p.length (bcells p) w := by rw [hsz]; exact hp.src
  by_cases hroom : xs.length + p.length ≤ cap
  · have hr := run_append_room_src w 24 24 24 5 i Tryz.underlying24 hi0 g 0 xs.length cap pv p.length (bcells p) hs hroom
      (fun j hj => by rw [bcells_len] at hj; rw [hsz, Nat.zero_add, Nat.mul_one]; simp only [World.cell?, hg]; simp; omega)
      (fun j hj => by rw [bcells_len] at hj; rw [hsz, Nat.zero_add, Nat.mul_one]; exact hfz _ (by omega))
    rw [hsz, Nat.zero_add, Nat.mul_one] at hr
    obtain ⟨cur', c1, c2, c3, c4⟩ := setCells_row (bcells p) xs.length w cur 5 f hg (by rw [bcells_len]; omega)
    refine ⟨_, _, hr, ?_, c4⟩
    have := bv_block (l := xs ++ p) c1 (by rw [List.length_append, bcells_append, ← htk, ← c3, bcells_len]) (by rw [List.length_append]; exact hroom) hcm
    rw [List.length_append] at this
    exact this
  · have hold : (Builtin.firstCells i.size xs.length (.slice (some ⟨g, 0, none⟩) xs.length cap)).run Tryz.prog w.drew = .ok (bcells xs).toArray w.drew := by
      refine run_firstCells_some w.drew i.size xs.length ⟨g, 0, none⟩ xs.length cap (bcells xs) (by rw [hsz, Nat.mul_one, bcells_len]) (fun j u hu => ?_)
      rw [Addr.add_lit, Nat.zero_add]
      rw [← htk, List.getElem?_take] at hu
      split at hu
      · show w.cell? _ = _
        simp only [World.cell?, hg]
        simpa using hu
      · cases hu
    have hr := run_append_grow_src w 24 24 24 5 i (.int .u8 0) Tryz.underlying24 hi0 hzz (some ⟨g, 0, none⟩) xs.length cap (bcells xs) hold pv p.length (bcells p) hs (by omega) (by omega) (by rw [hbb]; exact growslice_fits (by omega) (by omega))
    have hge := grownCap_ge w (xs.length + p.length) cap 5
    have hgm : grownCap w (xs.length + p.length) cap 5 ≤ maxLen := grownCap_le_maxLen w (xs.length + p.length) cap 5 (by unfold maxLen; omega)
    refine ⟨_, _, hr, ?_, ⟨rfl, rfl, rfl, by simp, fun k hk _ => heap_alloc_old w.drew _ hk⟩⟩
    have := bv_block (l := xs ++ p) (cur := (bcells xs ++ bcells p).toArray ++ Builtin.zeroCells (Value.int .u8 0).cells (grownCap w (xs.length + p.length) cap 5 - (xs.length + p.length))) (f := (0, 0)) (heap_alloc_new w.drew _) (by
      simp only [Array.toList_append]
      rw [← bcells_append, ← bcells_len (xs ++ p)]
      exact List.take_left) (by rw [List.length_append]; exact hge) hgm
    rw [List.length_append] at this
    exact this

theorem target_any {o : OpD} (hr : right o = true) (hu : o.upload < 18446744073709551616) {w : World} (hb : Base w) {pv dv : Value} (hp : Iv w pv o.parts) :
    Calls Tryz.prog 34 #[.agg #[.int .u64 o.id, .int .i64 o.kind, .string ⟨o.bucket.toArray⟩, .string ⟨o.key.toArray⟩, .string ⟨o.after.toArray⟩, .int .i64 o.n, .int .u64 o.upload, pv, dv]] w fun e w' => e = .returned (.string ⟨(targetD o).toArray⟩) ∧ Grow w w' := by
  have H := right_in hr
  obtain ⟨id, kind, bucket, key, after, n, upload, parts, data⟩ := o
  obtain ⟨k1, k2, hB, hK, hA, n1, n2, hl, hps, _⟩ := H
  simp only at k1 k2 hB hK hA n1 n2 hl hps hu hp
  rcases ck_or k1 k2 with rfl | rfl | rfl | rfl | rfl | rfl | rfl | rfl | rfl | rfl
  · exact target_bucket1 hB
  · exact target_bucket2 hB
  · exact target_obj rfl rfl rfl rfl rfl rfl hB hK
  · exact target_obj rfl rfl rfl rfl rfl rfl hB hK
  · exact target_obj rfl rfl rfl rfl rfl rfl hB hK
  · exact target_list hb hB hK hA n1 n2
  · exact target_obj rfl rfl rfl rfl rfl rfl hB hK
  · exact target_part hb hu n1 n2
  · exact target_join hb hu hp hl hps
  · exact target_drop hb hu

/-- The document's line is the method and the target. -/
def lineD (o : OpD) : List UInt8 := methodD o.kind ++ (32 :: targetD o)

theorem InB.ln {o : OpD} (h : InB o) : LnB o :=
  ⟨h.k1, h.k2, Nat.le_trans h.b (by omega), Nat.le_trans h.k (by omega), Nat.le_trans h.a (by omega), h.n1, Int.le_trans h.n2 (by omega), Nat.le_trans h.pl (by omega), fun x hx => ⟨(h.ps x hx).1, Int.le_trans (h.ps x hx).2 (by omega)⟩⟩

theorem line_in {o : OpD} (H : LnB o) (hu : o.upload < 18446744073709551616) {w : World} {pv dv : Value} (hp : Iv w pv o.parts) :
    Calls Tryz.prog 74 #[.agg #[.int .u64 o.id, .int .i64 o.kind, .string ⟨o.bucket.toArray⟩, .string ⟨o.key.toArray⟩, .string ⟨o.after.toArray⟩, .int .i64 o.n, .int .u64 o.upload, pv, dv]] w fun e w' => e = .returned (.string ⟨(lineD o).toArray⟩) ∧ Grow w w' := by
  obtain ⟨id, kind, bucket, key, after, n, upload, parts, data⟩ := o
  obtain ⟨k1, k2, hB, hK, hA, n1, n2, hl, hps⟩ := H
  simp only at k1 k2 hB hK hA n1 n2 hl hps hu hp
  rcases ck_or k1 k2 with rfl | rfl | rfl | rfl | rfl | rfl | rfl | rfl | rfl | rfl
  · exact line_1 hu hB hK
  · exact line_2 hu hB hK
  · exact line_3 hu hB hK
  · exact line_4 hu hB hK
  · exact line_5 hu hB hK
  · exact line_6 hA n1 n2 hu hB hK
  · exact line_7 hu hB hK
  · exact line_8 n1 n2 hu hB hK
  · exact line_9 hp hl hps hu hB hK
  · have := line_10 (w := w) (id := id) (u := upload) (n := n) (B := bucket) (K := key) (A := after) (pv := pv) (dv := dv) hu hB hK
    refine this.mono (fun e w' h => ⟨?_, h.2⟩)
    rw [h.1]
    show _ = Ending.returned (.string ⟨(methodD 10 ++ (32 :: ([47, 63, 117, 112, 108, 111, 97, 100, 61] ++ (hex16 upload ++ [])))).toArray⟩)
    rw [List.append_nil]
    rfl

theorem line_any {o : OpD} (hr : right o = true) (hu : o.upload < 18446744073709551616) {w : World} {pv dv : Value} (hp : Iv w pv o.parts) :
    Calls Tryz.prog 74 #[.agg #[.int .u64 o.id, .int .i64 o.kind, .string ⟨o.bucket.toArray⟩, .string ⟨o.key.toArray⟩, .string ⟨o.after.toArray⟩, .int .i64 o.n, .int .u64 o.upload, pv, dv]] w fun e w' => e = .returned (.string ⟨(lineD o).toArray⟩) ∧ Grow w w' :=
  line_in (right_in hr).ln hu hp

theorem target_lenB {o : OpD} (h : LnB o) : (targetD o).length ≤ 2000000 := by
  obtain ⟨id, kind, bucket, key, after, n, upload, parts, data⟩ := o
  obtain ⟨k1, k2, hB, hK, hA, n1, n2, hl, hps⟩ := h
  simp only at k1 k2 hB hK hA n1 n2 hl hps
  have h1 := esc_len key
  have h2 := esc_len after
  have h3 : (hex16 upload).length = 16 := hexF_len 16 upload
  have h4 : (decF n.toNat).length ≤ 13 := decF_len 12 _ (by omega)
  have h5 : (commas (parts.map fun n => decF n.toNat)).length ≤ 420000 := by
    have := commas_le (parts.map fun n => decF n.toNat) 13 (fun a ha => by
      obtain ⟨n, hn, rfl⟩ := List.mem_map.1 ha
      have := hps n hn
      exact decF_len 12 _ (by omega))
    rw [List.length_map] at this
    omega
  unfold targetD
  simp only
  repeat' split
  all_goals (simp only [List.length_cons, List.length_append, List.length_nil]; omega)

theorem line_lenB {o : OpD} (h : LnB o) : (lineD o).length ≤ 3000000 := by
  have h1 := target_lenB h
  have h2 := method_len o.kind
  unfold lineD
  rw [List.length_append, List.length_cons]
  omega
end Go.Proofs.YtdegmpimcappjaaGreatDoor

/- The program's Print. -/
namespace Go.Proofs.YtdegmpimcappjaaGreatDoor
open Go.RowKit Go.Gl Go.Front

/-- What a Print tells. -/
def PrPost (o : OpD) (w : World) (e : Ending) (w' : World) : Prop :=
  (right o = true ∧ ∃ v, e = .returned (.tuple #[v, .int .i64 0]) ∧ Bv w' v (headD o (decF o.data.length) ++ o.data) ∧ Grow w w') ∨
  (right o = false ∧ e = .returned (.tuple #[.slice none 0 0, .int .i64 1]) ∧ Grow w w')

theorem heap_grow {w0 : World} {b : Nat} {ob : Obj} (h : w0.heap[b]? = some ob) : ∀ W, Below w0.heap.size w0 W → W.heap[b]? = some ob :=
  fun _ hW => (hW.block b (lt_of_getElem? h)).trans h

theorem print_wrong {o : OpD} (hr : right o = false) {w : World} {pv dv : Value} (hp : Iv w pv o.parts) (hd : Bv w dv o.data) (hbk : o.bucket.length ≤ 9223372036854775807) (hpl : o.parts.length ≤ 9223372036854775807) :
    Calls Tryz.prog 13 #[.agg #[.int .u64 o.id, .int .i64 o.kind, .string ⟨o.bucket.toArray⟩, .string ⟨o.key.toArray⟩, .string ⟨o.after.toArray⟩, .int .i64 o.n, .int .u64 o.upload, pv, dv]] w (PrPost o w) := by
  obtain ⟨id, kind, B, K, A, n, u, pl, dl⟩ := o
  simp only at hp hd hbk hpl
  have HC : Hid (∀ W, Grow w W → Calls Tryz.prog 32 #[.agg #[.int .u64 id, .int .i64 kind, .string ⟨B.toArray⟩, .string ⟨K.toArray⟩, .string ⟨A.toArray⟩, .int .i64 n, .int .u64 u, pv, dv]] W fun e W' => e = .returned (.int .i64 1) ∧ Grow W W') := Lib.hid (fun W hW => by
    have h := check_any (id := id) (k := kind) (sb := ⟨B.toArray⟩) (sk := ⟨K.toArray⟩) (sa := ⟨A.toArray⟩) (n := n) (u := u) (hp.grow hW) (hd.grow hW) (by show B.toArray.size ≤ _; simp; omega) hpl
    refine h.mono (fun e W' h => ⟨h.1.trans ?_, h.2⟩)
    have e1 : right ⟨id, kind, (⟨B.toArray⟩ : ByteArray).data.toList, (⟨K.toArray⟩ : ByteArray).data.toList, (⟨A.toArray⟩ : ByteArray).data.toList, n, u, pl, dl⟩ = false := hr
    rw [e1]
    rfl)
  have Hr := Lib.hid hr
  clear hp hd hbk hpl hr
  go_enter Tryz.func13, Tryz.ntmps13
  go_wp2_with fail
  (with_reducible refine (HC.out _ (by (repeat (first | exact Below.refl _ _ | assumption | refine Below.drew ?_ | refine bDrewN ?_ | refine Below.setCell ?_ (by first | omega | (simp <;> omega)) _ | refine Below.alloc ?_ (by first | omega | (simp <;> omega)) _)))).mono ?_)
  rintro e w1 ⟨rfl, hg1⟩
  go_wp2
  exact bodyPost_ret (v := .tuple #[.slice none 0 0, .int .i64 1]) (by simp [results, Tryz.results13, go_sem]) rfl (.inr ⟨Hr.out, rfl, (Grow.alloc _ _).trans hg1⟩)

set_option maxRecDepth 100000 in
set_option maxHeartbeats 8000000 in
theorem print_right {o : OpD} (hr : right o = true) (hi : o.id < 18446744073709551616) (hu : o.upload < 18446744073709551616) {w : World} (hb : Base w) {pv dv : Value} (hp : Iv w pv o.parts) (hd : Bv w dv o.data) :
    Calls Tryz.prog 13 #[.agg #[.int .u64 o.id, .int .i64 o.kind, .string ⟨o.bucket.toArray⟩, .string ⟨o.key.toArray⟩, .string ⟨o.after.toArray⟩, .int .i64 o.n, .int .u64 o.upload, pv, dv]] w (PrPost o w) := by
  have HI := right_in hr
  have HT : Hid (∀ W, Grow w W → Calls Tryz.prog 34 #[.agg #[.int .u64 o.id, .int .i64 o.kind, .string ⟨o.bucket.toArray⟩, .string ⟨o.key.toArray⟩, .string ⟨o.after.toArray⟩, .int .i64 o.n, .int .u64 o.upload, pv, dv]] W fun e w' => e = .returned (.string ⟨(targetD o).toArray⟩) ∧ Grow W w') := Lib.hid (fun W hW => target_any hr hu (hb.grow hW) (hp.grow hW))
  have hTl := target_len hr
  have hsm := head_small hr (len := decF o.data.length) (decF_len 18 _ (by have := HI.d; omega))
  obtain ⟨TT, HTT⟩ : ∃ T, Hid (T = targetD o) := ⟨_, Lib.hid rfl⟩
  rw [← HTT.out] at HT hTl
  have HHD : Hid (headD o (decF o.data.length) = methodD o.kind ++ ([32] ++ (TT ++ ([32] ++ [71, 76, 67, 47, 49]))) ++ ([13, 10] ++ (([105, 100, 58, 32] ++ hex16 o.id) ++ ([13, 10] ++ ([108, 101, 110, 103, 116, 104, 58, 32] ++ decF o.data.length)))) ++ [13, 10, 13, 10]) := Lib.hid (by rw [HTT.out]; rfl)
  clear HTT
  have HPP : Hid (∀ e w', ((∃ v, e = .returned (.tuple #[v, .int .i64 0]) ∧ Bv w' v (headD o (decF o.data.length) ++ o.data) ∧ Grow w w') → PrPost o w e w')) := Lib.hid (fun e w' h => .inl ⟨hr, h⟩)
  obtain ⟨id, kind, B, K, A, n, u, pl, dl⟩ := o
  have hB := HI.b
  have hk1 := HI.k1
  have hk2 := HI.k2
  have hdl := HI.d
  have hpl := HI.pl
  simp only at hp hd hB hk1 hk2 hdl hpl hi hu
  have HC : Hid (∀ W, Grow w W → Calls Tryz.prog 32 #[.agg #[.int .u64 id, .int .i64 kind, .string ⟨B.toArray⟩, .string ⟨K.toArray⟩, .string ⟨A.toArray⟩, .int .i64 n, .int .u64 u, pv, dv]] W fun e W' => e = .returned (.int .i64 0) ∧ Grow W W') := Lib.hid (fun W hW => by
    have h := check_any (id := id) (k := kind) (sb := ⟨B.toArray⟩) (sk := ⟨K.toArray⟩) (sa := ⟨A.toArray⟩) (n := n) (u := u) (hp.grow hW) (hd.grow hW) (by show B.toArray.size ≤ _; simp; omega) (by omega)
    refine h.mono (fun e W' h => ⟨h.1.trans ?_, h.2⟩)
    have e1 : right ⟨id, kind, (⟨B.toArray⟩ : ByteArray).data.toList, (⟨K.toArray⟩ : ByteArray).data.toList, (⟨A.toArray⟩ : ByteArray).data.toList, n, u, pl, dl⟩ = true := hr
    rw [e1]
    rfl)
  have HM : Hid (∀ W, Calls Tryz.prog 33 #[.int .i64 kind] W fun e w' => e = .returned (.string ⟨(methodD kind).toArray⟩) ∧ w' = W) := Lib.hid (fun W => method_any hk1 hk2 W)
  have hMl := method_len kind
  have HS : Hid (∀ W, Grow w W → Calls Tryz.prog 35 #[.int .u64 id] W fun e w' => e = .returned (.string ⟨(hex16 id).toArray⟩) ∧ Grow W w') := Lib.hid (fun W hW => sixteen_any (hb.grow hW) id hi)
  have hX : (hex16 id).length = 16 := hexF_len 16 id
  have HI2 : Hid (∀ W, Grow w W → Calls Tryz.prog 36 #[.int .i64 (dl.length : Int)] W fun e w' => e = .returned (.string ⟨(decF dl.length).toArray⟩) ∧ Grow W w') := Lib.hid (fun W hW => itoa_any (n := (dl.length : Int)) (by omega) (by omega) (hb.grow hW))
  have hN : (decF dl.length).length ≤ 19 := decF_len 18 _ (by omega)
  have Hd := Lib.hid hd
  have hd0 := hd
  obtain ⟨da, dc, rfl, hdd⟩ := hd0
  clear hd hp hb hr HI hdd hpl hB
  go_enter Tryz.func13, Tryz.ntmps13
  go_upto_region 1 with fail
  have hbk := heap_alloc_new w (.cells #[.int .u64 id, .int .i64 kind, .string ⟨B.toArray⟩, .string ⟨K.toArray⟩, .string ⟨A.toArray⟩, .int .i64 n, .int .u64 u, pv, .slice da dl.length dc] 26)
  have hg0 := Grow.alloc w (.cells #[.int .u64 id, .int .i64 kind, .string ⟨B.toArray⟩, .string ⟨K.toArray⟩, .string ⟨A.toArray⟩, .int .i64 n, .int .u64 u, pv, .slice da dl.length dc] 26)
  generalize w.alloc (.cells #[.int .u64 id, .int .i64 kind, .string ⟨B.toArray⟩, .string ⟨K.toArray⟩, .string ⟨A.toArray⟩, .int .i64 n, .int .u64 u, pv, .slice da dl.length dc] 26) = W0 at *
  have HG := Lib.hid hg0
  have lb1 : w.heap.size < W0.heap.size := lt_of_getElem? hbk
  clear hg0
  generalize w.heap.size = B1 at *
  have q0 : W0.cell? ⟨B1, 0, none⟩ = some (.int .u64 id) := ck_cell hbk rfl
  have q1 : W0.cell? ⟨B1, 1, none⟩ = some (.int .i64 kind) := ck_cell hbk rfl
  have q2 : W0.cell? ⟨B1, 2, none⟩ = some (.string ⟨B.toArray⟩) := ck_cell hbk rfl
  have q3 : W0.cell? ⟨B1, 3, none⟩ = some (.string ⟨K.toArray⟩) := ck_cell hbk rfl
  have q4 : W0.cell? ⟨B1, 4, none⟩ = some (.string ⟨A.toArray⟩) := ck_cell hbk rfl
  have q5 : W0.cell? ⟨B1, 5, none⟩ = some (.int .i64 n) := ck_cell hbk rfl
  have q6 : W0.cell? ⟨B1, 6, none⟩ = some (.int .u64 u) := ck_cell hbk rfl
  have q7 : W0.cell? ⟨B1, 7, none⟩ = some (pv) := ck_cell hbk rfl
  have q8 : W0.cell? ⟨B1, 8, none⟩ = some (.slice da dl.length dc) := ck_cell hbk rfl
  clear hbk
  have hcl := Grow.cells (w := W0)
  go_wp2_with fail
  (with_reducible refine (HC.out _ HG.out).mono ?_)
  rintro e w1 ⟨rfl, hg1⟩
  go_wp2_with fail
  refine wp_region_fix (fun W => Grow W0 W) (by kernel_rfl) (by kernel_rfl) (by kernel_rfl) (hg1.trans (Grow.drew _)) ?_
  repeat (first | (refine wpFix_quiet (by rfl) (fun W hW => exec_addS rfl rfl rfl (by (try simp only [List.length_append, List.length_cons, List.length_nil]); omega)) ?_; (try simp only [Act.put, List.setIfInBounds_toArray, List.set_cons_zero, List.set_cons_succ])) | (first | (refine wpFix_quiet (v := ?_) (by rfl) (fun W hW => ?_) ?_; rotate_left; (obtain hW := hW; go_simp; with_reducible rfl); (try simp only [Act.put, List.setIfInBounds_toArray, List.set_cons_zero, List.set_cons_succ])) | (refine wpFix_off (by rfl) ?_; (try simp only [Act.put, List.setIfInBounds_toArray, List.set_cons_zero, List.set_cons_succ]))))
  refine wpFix_call (by rfl) (fun W => by go_simp) (fun W hW => (HM.out W).mono (fun e W' h => ⟨h.1, by rw [h.2]; exact hW⟩)) ?_
  try try simp only [Act.put, List.setIfInBounds_toArray, List.set_cons_zero, List.set_cons_succ]
  repeat (first | (refine wpFix_quiet (by rfl) (fun W hW => exec_addS rfl rfl rfl (by (try simp only [List.length_cons, List.length_nil]); omega)) ?_; (try simp only [Act.put, List.setIfInBounds_toArray, List.set_cons_zero, List.set_cons_succ])) | (first | (refine wpFix_quiet (v := ?_) (by rfl) (fun W hW => ?_) ?_; rotate_left; (obtain hW := hW; go_simp; with_reducible rfl); (try simp only [Act.put, List.setIfInBounds_toArray, List.set_cons_zero, List.set_cons_succ])) | (refine wpFix_off (by rfl) ?_; (try simp only [Act.put, List.setIfInBounds_toArray, List.set_cons_zero, List.set_cons_succ]))))
  refine wpFix_call (by rfl) (fun W => by go_simp) (fun W hW => (HT.out W (HG.out.trans hW)).mono (fun e W' h => ⟨h.1, Grow.trans hW h.2⟩)) ?_
  try try simp only [Act.put, List.setIfInBounds_toArray, List.set_cons_zero, List.set_cons_succ]
  repeat (first | (refine wpFix_quiet (by rfl) (fun W hW => exec_addS rfl rfl rfl (by (try simp only [List.length_append, List.length_cons, List.length_nil]); omega)) ?_; (try simp only [Act.put, List.setIfInBounds_toArray, List.set_cons_zero, List.set_cons_succ])) | (first | (refine wpFix_quiet (v := ?_) (by rfl) (fun W hW => ?_) ?_; rotate_left; (obtain hW := hW; go_simp; with_reducible rfl); (try simp only [Act.put, List.setIfInBounds_toArray, List.set_cons_zero, List.set_cons_succ])) | (refine wpFix_off (by rfl) ?_; (try simp only [Act.put, List.setIfInBounds_toArray, List.set_cons_zero, List.set_cons_succ]))))
  refine wpFix_call (by rfl) (fun W => by go_simp) (fun W hW => (HS.out W (HG.out.trans hW)).mono (fun e W' h => ⟨h.1, Grow.trans hW h.2⟩)) ?_
  try try simp only [Act.put, List.setIfInBounds_toArray, List.set_cons_zero, List.set_cons_succ]
  repeat (first | (refine wpFix_quiet (by rfl) (fun W hW => exec_addS rfl rfl rfl (by (try simp only [List.length_append, List.length_cons, List.length_nil]); omega)) ?_; (try simp only [Act.put, List.setIfInBounds_toArray, List.set_cons_zero, List.set_cons_succ])) | (first | (refine wpFix_quiet (v := ?_) (by rfl) (fun W hW => ?_) ?_; rotate_left; (obtain hW := hW; go_simp; with_reducible rfl); (try simp only [Act.put, List.setIfInBounds_toArray, List.set_cons_zero, List.set_cons_succ])) | (refine wpFix_off (by rfl) ?_; (try simp only [Act.put, List.setIfInBounds_toArray, List.set_cons_zero, List.set_cons_succ]))))
  refine wpFix_call (by rfl) (fun W => by go_simp) (fun W hW => (HI2.out W (HG.out.trans hW)).mono (fun e W' h => ⟨h.1, Grow.trans hW h.2⟩)) ?_
  try try simp only [Act.put, List.setIfInBounds_toArray, List.set_cons_zero, List.set_cons_succ]
  repeat (first | (refine wpFix_quiet (by rfl) (fun W hW => exec_addS rfl rfl rfl (by (try simp only [List.length_append, List.length_cons, List.length_nil]); omega)) ?_; (try simp only [Act.put, List.setIfInBounds_toArray, List.set_cons_zero, List.set_cons_succ])) | (first | (refine wpFix_quiet (v := ?_) (by rfl) (fun W hW => ?_) ?_; rotate_left; (obtain hW := hW; go_simp; with_reducible rfl); (try simp only [Act.put, List.setIfInBounds_toArray, List.set_cons_zero, List.set_cons_succ])) | (refine wpFix_off (by rfl) ?_; (try simp only [Act.put, List.setIfInBounds_toArray, List.set_cons_zero, List.set_cons_succ]))))
  refine wpFix_nil (fun W hW => ?_)
  have hL : methodD kind ++ [32] ++ TT ++ [32] ++ [71, 76, 67, 47, 49] ++ [13, 10] ++ [105, 100, 58, 32] ++ hex16 id ++ [13, 10] ++ [108, 101, 110, 103, 116, 104, 58, 32] ++ decF dl.length ++ [13, 10] ++ [13, 10] = headD ⟨id, kind, B, K, A, n, u, pl, dl⟩ (decF dl.length) := by
    rw [HHD.out]
    simp only [List.append_assoc, List.cons_append, List.nil_append]
  have hL2 : methodD kind ++ 32 :: (TT ++ 32 :: 71 :: 76 :: 67 :: 47 :: 49 :: 13 :: 10 :: 105 :: 100 :: 58 :: 32 :: (hex16 id ++ 13 :: 10 :: 108 :: 101 :: 110 :: 103 :: 116 :: 104 :: 58 :: 32 :: (decF dl.length ++ [13, 10, 13, 10]))) = headD ⟨id, kind, B, K, A, n, u, pl, dl⟩ (decF dl.length) := by
    rw [HHD.out]
    simp only [List.append_assoc, List.cons_append, List.nil_append]
  rw [hL, hL2]
  clear hL hL2 HHD
  try simp only at HPP
  try simp only at hsm
  generalize headD ⟨id, kind, B, K, A, n, u, pl, dl⟩ (decF dl.length) = HL at *
  obtain ⟨cap, w2, hconv, hbv, hg2, cur, f, k1, k2, k3, k4, k5⟩ := conv_bytes ⟨HL.toArray⟩ (by show HL.toArray.size ≤ _; simp; omega) W
  have hsz : (⟨HL.toArray⟩ : ByteArray).size = HL.length := by simp [ByteArray.size]
  rw [hsz] at hconv hbv k3 k5
  generalize (⟨HL.toArray⟩ : ByteArray) = sH at hconv hsz ⊢
  have hcm : cap ≤ maxLen := by
    obtain ⟨a, c, e1, _, hm, _⟩ := hbv
    cases e1
    exact hm
  have hg02 : Grow W0 w2 := hW.trans hg2
  have hgw2 : Grow w w2 := HG.out.trans hg02
  obtain ⟨v', w', r1, r2, r3⟩ := append_conv (w := w2) (xs := HL) k1 k2 k4 k5 hcm (Hd.out.grow hgw2) (by omega)
  have hq8 : w2.cell? ⟨B1, 8, none⟩ = some (.slice da dl.length dc) := by rw [hcl w2 B1 8 hg02 lb1]; exact q8
  have hWs : w.heap.size ≤ W.heap.size := (HG.out.trans hW).size
  have hgf : Grow w w' := Below.grown hgw2 r3 hgw2.size (fun b hk => by cases hk; exact hWs)
  have Hrun := Lib.hid r1
  have Hbv := Lib.hid r2
  have Hgf := Lib.hid hgf
  clear hcl hbv hg2 k1 k2 k3 k4 k5 hcm hg02 hgw2 r1 r2 r3 hWs hgf hsz q0 q1 q2 q3 q4 q5 q6 q7 q8
  go_wp2_with (at_builtin; refine wpList_append rfl rfl rfl rfl Hrun.out ?_)
  exact bodyPost_ret (v := .tuple #[v', .int .i64 0]) (by simp [results, Tryz.results13, go_sem]) rfl (HPP.out _ _ ⟨v', rfl, Hbv.out, Hgf.out⟩)

theorem print_any {o : OpD} (hi : o.id < 18446744073709551616) (hu : o.upload < 18446744073709551616) {w : World} (hb : Base w) {pv dv : Value} (hp : Iv w pv o.parts) (hd : Bv w dv o.data) (hbk : o.bucket.length ≤ 9223372036854775807) (hpl : o.parts.length ≤ 9223372036854775807) :
    Calls Tryz.prog 13 #[.agg #[.int .u64 o.id, .int .i64 o.kind, .string ⟨o.bucket.toArray⟩, .string ⟨o.key.toArray⟩, .string ⟨o.after.toArray⟩, .int .i64 o.n, .int .u64 o.upload, pv, dv]] w (PrPost o w) := by
  cases hr : right o with
  | true => exact print_right hr hi hu hb hp hd
  | false => exact print_wrong hr hp hd hbk hpl
end Go.Proofs.YtdegmpimcappjaaGreatDoor

/- The document's check of any operation, its head of a request, its Print. -/
namespace Go.Proofs.YtdegmpimcappjaaGreatDoor
open Go.RowKit Go.Gl Go.Front

theorem checkD_any {w : World} {id : Nat} {k : Int} {sb sk sa : ByteArray} {n : Int} {u : Nat} {pv dv : Value} {pl : List Int} {dl : List UInt8} (hp : Iv w pv pl) (hd : Bv w dv dl) (hb : sb.size ≤ 9223372036854775807) (hmax : pl.length ≤ 9223372036854775807) :
    Calls Tryz.prog 22 #[.agg #[.int .u64 id, .int .i64 k, .string sb, .string sk, .string sa, .int .i64 n, .int .u64 u, pv, dv]] w fun e w' => e = .returned (.int .i64 (errD (right ⟨id, k, sb.data.toList, sk.data.toList, sa.data.toList, n, u, pl, dl⟩))) ∧ Grow w w' := by
  by_cases h : 1 ≤ k ∧ k ≤ 10
  · rcases ck_or h.1 h.2 with rfl | rfl | rfl | rfl | rfl | rfl | rfl | rfl | rfl | rfl
    · exact checkD_1 hp hd hb hmax
    · exact checkD_2 hp hd hb hmax
    · exact checkD_3 hp hd hb hmax
    · exact checkD_4 hp hd hb hmax
    · exact checkD_5 hp hd hb hmax
    · exact checkD_6 hp hd hb hmax
    · exact checkD_7 hp hd hb hmax
    · exact checkD_8 hp hd hb hmax
    · exact checkD_9 hp hd hb hmax
    · exact checkD_10 hp hd hb hmax
  · exact checkD_else h hp hd

set_option maxRecDepth 100000 in
set_option maxHeartbeats 4000000 in
theorem headR_in {o : OpD} (H : LnB o) (hi : o.id < 18446744073709551616) (hu : o.upload < 18446744073709551616) {len : List UInt8} (hlen : len.length ≤ 100000) {w : World} {pv dv : Value} (hp : Iv w pv o.parts) :
    Calls Tryz.prog 37 #[.agg #[.int .u64 o.id, .int .i64 o.kind, .string ⟨o.bucket.toArray⟩, .string ⟨o.key.toArray⟩, .string ⟨o.after.toArray⟩, .int .i64 o.n, .int .u64 o.upload, pv, dv], .string ⟨len.toArray⟩] w fun e w' => e = .returned (.string ⟨(headD o len).toArray⟩) ∧ Grow w w' := by
  have HT : Hid (∀ W, Grow w W → Calls Tryz.prog 74 #[.agg #[.int .u64 o.id, .int .i64 o.kind, .string ⟨o.bucket.toArray⟩, .string ⟨o.key.toArray⟩, .string ⟨o.after.toArray⟩, .int .i64 o.n, .int .u64 o.upload, pv, dv]] W fun e w' => e = .returned (.string ⟨(lineD o).toArray⟩) ∧ Grow W w') := Lib.hid (fun W hW => line_in H hu (hp.grow hW))
  have hTl := line_lenB H
  obtain ⟨TT, HTT⟩ : ∃ T, Hid (T = lineD o) := ⟨_, Lib.hid rfl⟩
  rw [← HTT.out] at HT hTl
  have HHD : Hid (headD o len = TT ++ ([32, 71, 76, 67, 47, 49, 13, 10, 105, 100, 58, 32] ++ (hex16 o.id ++ ([13, 10, 108, 101, 110, 103, 116, 104, 58, 32] ++ (len ++ [13, 10, 13, 10]))))) := Lib.hid (by
    rw [HTT.out]
    unfold headD headL line0 line1 line2 lineD
    simp only [List.append_assoc, List.cons_append, List.nil_append])
  clear HTT
  obtain ⟨id, kind, B, K, A, n, u, pl, dl⟩ := o
  simp only at hp hi hu
  have HS : Hid (∀ W, Calls Tryz.prog 58 #[.int .u64 id] W fun e w' => e = .returned (.string ⟨(hex16 id).toArray⟩) ∧ Grow W w') := Lib.hid (fun W => hex_any id hi W)
  have hX : (hex16 id).length = 16 := hexF_len 16 id
  clear hp H
  go_enter Tryz.func37, Tryz.ntmps37
  go_upto_region 1 with fail
  have hbk := heap_alloc_new w (.cells #[.int .u64 id, .int .i64 kind, .string ⟨B.toArray⟩, .string ⟨K.toArray⟩, .string ⟨A.toArray⟩, .int .i64 n, .int .u64 u, pv, dv] 26)
  have hg0 := Grow.alloc w (.cells #[.int .u64 id, .int .i64 kind, .string ⟨B.toArray⟩, .string ⟨K.toArray⟩, .string ⟨A.toArray⟩, .int .i64 n, .int .u64 u, pv, dv] 26)
  generalize w.alloc (.cells #[.int .u64 id, .int .i64 kind, .string ⟨B.toArray⟩, .string ⟨K.toArray⟩, .string ⟨A.toArray⟩, .int .i64 n, .int .u64 u, pv, dv] 26) = W0 at *
  have HG := Lib.hid hg0
  have lb1 : w.heap.size < W0.heap.size := lt_of_getElem? hbk
  clear hg0
  generalize w.heap.size = B1 at *
  have q0 : W0.cell? ⟨B1, 0, none⟩ = some (.int .u64 id) := ck_cell hbk rfl
  have q1 : W0.cell? ⟨B1, 1, none⟩ = some (.int .i64 kind) := ck_cell hbk rfl
  have q2 : W0.cell? ⟨B1, 2, none⟩ = some (.string ⟨B.toArray⟩) := ck_cell hbk rfl
  have q3 : W0.cell? ⟨B1, 3, none⟩ = some (.string ⟨K.toArray⟩) := ck_cell hbk rfl
  have q4 : W0.cell? ⟨B1, 4, none⟩ = some (.string ⟨A.toArray⟩) := ck_cell hbk rfl
  have q5 : W0.cell? ⟨B1, 5, none⟩ = some (.int .i64 n) := ck_cell hbk rfl
  have q6 : W0.cell? ⟨B1, 6, none⟩ = some (.int .u64 u) := ck_cell hbk rfl
  have q7 : W0.cell? ⟨B1, 7, none⟩ = some (pv) := ck_cell hbk rfl
  have q8 : W0.cell? ⟨B1, 8, none⟩ = some (dv) := ck_cell hbk rfl
  clear hbk
  have hcl := Grow.cells (w := W0)
  go_wp2_with fail
  refine wp_region_fix (fun W => Grow W0 W) (by kernel_rfl) (by kernel_rfl) (by kernel_rfl) (Grow.drew W0) ?_
  repeat (first | (refine wpFix_quiet (by rfl) (fun W hW => exec_addS rfl rfl rfl (by (try simp only [List.length_append, List.length_cons, List.length_nil]); omega)) ?_; (try simp only [Act.put, List.setIfInBounds_toArray, List.set_cons_zero, List.set_cons_succ])) | (first | (refine wpFix_quiet (v := ?_) (by rfl) (fun W hW => ?_) ?_; rotate_left; (obtain hW := hW; go_simp; with_reducible rfl); (try simp only [Act.put, List.setIfInBounds_toArray, List.set_cons_zero, List.set_cons_succ])) | (refine wpFix_off (by rfl) ?_; (try simp only [Act.put, List.setIfInBounds_toArray, List.set_cons_zero, List.set_cons_succ]))))
  refine wpFix_call (by rfl) (fun W => by go_simp) (fun W hW => (HT.out W (HG.out.trans hW)).mono (fun e W' h => ⟨h.1, Grow.trans hW h.2⟩)) ?_
  try try simp only [Act.put, List.setIfInBounds_toArray, List.set_cons_zero, List.set_cons_succ]
  repeat (first | (refine wpFix_quiet (by rfl) (fun W hW => exec_addS rfl rfl rfl (by (try simp only [List.length_cons, List.length_nil]); omega)) ?_; (try simp only [Act.put, List.setIfInBounds_toArray, List.set_cons_zero, List.set_cons_succ])) | (first | (refine wpFix_quiet (v := ?_) (by rfl) (fun W hW => ?_) ?_; rotate_left; (obtain hW := hW; go_simp; with_reducible rfl); (try simp only [Act.put, List.setIfInBounds_toArray, List.set_cons_zero, List.set_cons_succ])) | (refine wpFix_off (by rfl) ?_; (try simp only [Act.put, List.setIfInBounds_toArray, List.set_cons_zero, List.set_cons_succ]))))
  refine wpFix_call (by rfl) (fun W => by go_simp) (fun W hW => (HS.out W).mono (fun e W' h => ⟨h.1, Grow.trans hW h.2⟩)) ?_
  try try simp only [Act.put, List.setIfInBounds_toArray, List.set_cons_zero, List.set_cons_succ]
  repeat (first | (refine wpFix_quiet (by rfl) (fun W hW => exec_addS rfl rfl rfl (by (try simp only [List.length_append, List.length_cons, List.length_nil]); omega)) ?_; (try simp only [Act.put, List.setIfInBounds_toArray, List.set_cons_zero, List.set_cons_succ])) | (first | (refine wpFix_quiet (v := ?_) (by rfl) (fun W hW => ?_) ?_; rotate_left; (obtain hW := hW; go_simp; with_reducible rfl); (try simp only [Act.put, List.setIfInBounds_toArray, List.set_cons_zero, List.set_cons_succ])) | (refine wpFix_off (by rfl) ?_; (try simp only [Act.put, List.setIfInBounds_toArray, List.set_cons_zero, List.set_cons_succ]))))
  refine wpFix_nil (fun W hW => ?_)
  clear hcl
  go_wp2
  go_ret
  exact ⟨by rw [HHD.out]; simp only [List.append_assoc, List.cons_append, List.nil_append]; rfl, HG.out.trans hW⟩

theorem headR_any {o : OpD} (hr : right o = true) (hi : o.id < 18446744073709551616) (hu : o.upload < 18446744073709551616) {len : List UInt8} (hlen : len.length ≤ 100000) {w : World} {pv dv : Value} (hp : Iv w pv o.parts) :
    Calls Tryz.prog 37 #[.agg #[.int .u64 o.id, .int .i64 o.kind, .string ⟨o.bucket.toArray⟩, .string ⟨o.key.toArray⟩, .string ⟨o.after.toArray⟩, .int .i64 o.n, .int .u64 o.upload, pv, dv], .string ⟨len.toArray⟩] w fun e w' => e = .returned (.string ⟨(headD o len).toArray⟩) ∧ Grow w w' :=
  headR_in (right_in hr).ln hi hu hlen hp
end Go.Proofs.YtdegmpimcappjaaGreatDoor

/- must, cut, text: the program's reader breaks off by a panic. -/
namespace Go.Proofs.YtdegmpimcappjaaGreatDoor
open Go.RowKit Go.Gl Go.Front

/-- The panic that says: 400. -/
abbrev badE : Ending := .panicked [{ v := .iface 3 (.int .i64 400), recovered := false }]

theorem must_ok (w : World) : Calls Tryz.prog 47 #[.bool true] w fun e w' => e = .returned (.tuple #[]) ∧ w' = w := by
  go_enter Tryz.func47, Tryz.ntmps47
  go_wp2
  exact ⟨rfl, .tuple #[], by simp [results, Tryz.results47, go_sem], rfl, rfl⟩

theorem must_bad (w : World) : Calls Tryz.prog 47 #[.bool false] w fun e w' => e = badE ∧ w' = w := by
  go_enter Tryz.func47, Tryz.ntmps47
  go_wp2
  exact ⟨rfl, rfl, rfl⟩

theorem must_any (b : Bool) (w : World) : Calls Tryz.prog 47 #[.bool b] w fun e w' => e = (if b then .returned (.tuple #[]) else badE) ∧ w' = w := by
  cases b
  · exact must_bad w
  · exact must_ok w

/-- A text that must be had. -/
def TxtPost (o : Option (List UInt8)) (w : World) (e : Ending) (w' : World) : Prop := (match o with | some k => e = .returned (.string ⟨k.toArray⟩) | none => e = badE) ∧ Grow w w'

theorem text_any (s : ByteArray) (w : World) (hs : s.size ≤ 1000000000000) : Calls Tryz.prog 107 #[.string s] w (TxtPost (unesc s.data.toList) w) := by
  have hU := unescape_any s w hs
  have HM := must_ok
  have HB := must_bad
  clear hs
  cases hk : unesc s.data.toList with
  | some k =>
    rw [hk] at hU
    have HU := Lib.hid hU
    clear hU hk
    go_enter Tryz.func107, Tryz.ntmps107
    go_wp2_with fail
    (with_reducible refine HU.out.mono ?_)
    rintro e w1 ⟨rfl, hg⟩
    simp only [uneV]
    go_wp2_with fail
    (with_reducible refine (HM _).mono ?_)
    rintro e w2 ⟨rfl, hw⟩
    have hw' := hw.symm
    subst hw'
    clear hw
    go_wp2
    go_ret
    exact ⟨rfl, hg⟩
  | none =>
    rw [hk] at hU
    have HU := Lib.hid hU
    clear hU hk
    go_enter Tryz.func107, Tryz.ntmps107
    go_wp2_with fail
    (with_reducible refine HU.out.mono ?_)
    rintro e w1 ⟨rfl, hg⟩
    simp only [uneV]
    go_wp2_with fail
    (with_reducible refine (HB _).mono ?_)
    rintro e w2 ⟨rfl, hw⟩
    have hw' := hw.symm
    subst hw'
    clear hw
    go_wp2
    exact ⟨rfl, rfl, hg⟩

/-- A cut that must be had. -/
def CutPost (c : List UInt8 × List UInt8 × Bool) (w : World) (e : Ending) (w' : World) : Prop := (e = if c.2.2 then .returned (.tuple #[.string ⟨c.1.toArray⟩, .string ⟨c.2.1.toArray⟩]) else badE) ∧ Grow w w'

theorem cut_any (s sep : ByteArray) (w : World) (hb : Base w) (hs : s.size < 4294967281) : Calls Tryz.prog 104 #[.string s, .string sep] w (CutPost (Lib.cut s.data.toList sep.data.toList) w) := by
  obtain ⟨m, hm⟩ := hb.max
  have hC := Tryz.strings_Cut s sep m w hs hm
  have HM := must_ok
  have HB := must_bad
  clear hs hm
  generalize Lib.cut s.data.toList sep.data.toList = c at *
  obtain ⟨c1, c2, c3⟩ := c
  simp only at hC
  cases c3 with
  | true =>
    have HC := Lib.hid hC
    clear hC
    go_enter Tryz.func104, Tryz.ntmps104
    go_wp2_with fail
    (with_reducible refine HC.out.mono ?_)
    rintro e w1 ⟨rfl, k, rfl⟩
    have hg : Grow w (w.drewN k) := bDrewN (Below.refl _ _)
    generalize w.drewN k = w1 at *
    go_wp2_with fail
    (with_reducible refine (HM _).mono ?_)
    rintro e w2 ⟨rfl, hw⟩
    have hw' := hw.symm
    subst hw'
    clear hw
    go_wp2
    exact bodyPost_ret (v := .tuple #[.string ⟨c1.toArray⟩, .string ⟨c2.toArray⟩]) (by simp [results, Tryz.results104, go_sem]) rfl ⟨rfl, hg⟩
  | false =>
    have HC := Lib.hid hC
    clear hC
    go_enter Tryz.func104, Tryz.ntmps104
    go_wp2_with fail
    (with_reducible refine HC.out.mono ?_)
    rintro e w1 ⟨rfl, k, rfl⟩
    have hg : Grow w (w.drewN k) := bDrewN (Below.refl _ _)
    generalize w.drewN k = w1 at *
    go_wp2_with fail
    (with_reducible refine (HB _).mono ?_)
    rintro e w2 ⟨rfl, hw⟩
    have hw' := hw.symm
    subst hw'
    clear hw
    go_wp2
    exact ⟨rfl, rfl, hg⟩
end Go.Proofs.YtdegmpimcappjaaGreatDoor

/- strings.Split in plain form; rows of numbers; numbers read one by one. -/
namespace Go.Proofs.YtdegmpimcappjaaGreatDoor
open Go.RowKit Go.Gl Go.Front

theorem split_any (s sep : List UInt8) {w : World} (hb : Base w) (hs : s.length ≤ 1000000) (h1 : 1 ≤ sep.length) :
    Calls Tryz.prog 80 #[.string ⟨s.toArray⟩, .string ⟨sep.toArray⟩] w fun e w' => e = .returned (.slice (some ⟨w.heap.size, 0, none⟩) (Lib.split s sep).length (Lib.split s sep).length) ∧ w' = w.alloc (.cells (scells (Lib.split s sep)).toArray 9) := by
  obtain ⟨m, hm⟩ := hb.max
  have hsep : 1 ≤ (⟨sep.toArray⟩ : ByteArray).size := by show 1 ≤ sep.toArray.size; simpa using h1
  have h := Tryz.strings_Split ⟨s.toArray⟩ ⟨sep.toArray⟩ m w (by show s.toArray.size < _; simp; omega) hm hsep
  have e1 : (Lib.splitB ⟨sep.toArray⟩ 0 (Lib.countB ⟨s.toArray⟩ ⟨sep.toArray⟩) ⟨s.toArray⟩).map (·.data.toList) = Lib.split s sep := Lib.splitB_data _ _ _ _
  have e2 : (Lib.splitB ⟨sep.toArray⟩ 0 (Lib.countB ⟨s.toArray⟩ ⟨sep.toArray⟩) ⟨s.toArray⟩).length = Lib.countB ⟨s.toArray⟩ ⟨sep.toArray⟩ + 1 := Lib.splitB_all _ hsep 0 _ _ rfl
  have e3 : (Lib.split s sep).length = Lib.countB ⟨s.toArray⟩ ⟨sep.toArray⟩ + 1 := by rw [← e1, List.length_map, e2]
  have e4 : scells (Lib.split s sep) = (Lib.splitB ⟨sep.toArray⟩ 0 (Lib.countB ⟨s.toArray⟩ ⟨sep.toArray⟩) ⟨s.toArray⟩).map Value.string := by
    rw [← e1, scells, List.map_map]
    rfl
  rw [e3, e4]
  exact h

theorem split_len (s sep : List UInt8) (h1 : 1 ≤ sep.length) : (Lib.split s sep).length ≤ s.length + 1 := by
  have hsep : 1 ≤ (⟨sep.toArray⟩ : ByteArray).size := by show 1 ≤ sep.toArray.size; simpa using h1
  have e1 : (Lib.splitB ⟨sep.toArray⟩ 0 (Lib.countB ⟨s.toArray⟩ ⟨sep.toArray⟩) ⟨s.toArray⟩).map (·.data.toList) = Lib.split s sep := Lib.splitB_data _ _ _ _
  have e2 := Lib.splitB_all _ hsep 0 _ (⟨s.toArray⟩ : ByteArray) rfl
  have e3 := Lib.countB_le _ hsep _ (⟨s.toArray⟩ : ByteArray) (Nat.le_refl _)
  have e4 : (⟨s.toArray⟩ : ByteArray).size = s.length := by simp [ByteArray.size]
  rw [← e1, List.length_map, e2]
  omega

theorem splitK_mem (sep : List UInt8) : ∀ (k : Nat) (s x : List UInt8), x ∈ Lib.splitK sep 0 k s → x.length ≤ s.length
  | 0, s, x, h => by
    unfold Lib.splitK at h
    rw [List.mem_singleton.1 h]
    exact Nat.le_refl _
  | k + 1, s, x, h => by
    unfold Lib.splitK at h
    split at h
    · rw [List.mem_singleton.1 h]
      exact Nat.le_refl _
    · rcases List.mem_cons.1 h with rfl | h
      · rw [List.length_take]; omega
      · have := splitK_mem sep k _ x h
        rw [List.length_drop] at this
        omega
theorem split_mem {s sep x : List UInt8} (h : x ∈ Lib.split s sep) : x.length ≤ s.length := splitK_mem sep _ s x h

def icells (l : List Int) : List Value := l.map fun n => Value.int .i64 n
theorem icells_len (l : List Int) : (icells l).length = l.length := by simp [icells]
theorem icells_append (a b : List Int) : icells (a ++ b) = icells a ++ icells b := by simp [icells]
/-- A row of numbers of one's own. -/
abbrev OwnI (B : Nat) (w : World) (v : Value) (l : List Int) : Prop := Row1 3 B w v (icells l)

theorem OwnI.slice' {B : Nat} {w : World} {v : Value} {l : List Int} (h : OwnI B w v l) : ∃ a c, v = .slice a l.length c := by
  obtain ⟨a, c, rfl⟩ := Row1.slice h
  exact ⟨a, c, by rw [icells_len]⟩

theorem OwnI.iv {B : Nat} {w : World} {v : Value} {l : List Int} (h : OwnI B w v l) : Iv w v l := by
  rcases h with ⟨rfl, h0⟩ | ⟨g, cap, cur, rfl, hB, hg, hn, hc, hm, ht⟩
  · have : l = [] := List.eq_nil_of_length_eq_zero (by rw [← icells_len, h0]; rfl)
    subst this
    exact ⟨none, 0, rfl, .inl rfl⟩
  · have hrow : OwnI B w (.slice (some ⟨g, 0, none⟩) (icells l).length cap) l := .inr ⟨g, cap, cur, rfl, hB, hg, hn, hc, hm, ht⟩
    refine ⟨some ⟨g, 0, none⟩, cap, by rw [icells_len], .inr ⟨g, 0, rfl, lt_of_getElem? hg, fun j k hk => ?_⟩⟩
    rw [Nat.zero_add]
    exact hrow.cells rfl (by simp [icells, hk])

theorem append_int {B : Nat} {w : World} {v : Value} {l : List Int} {x : Int} (h : OwnI B w v l) (hB : B ≤ w.heap.size) (hlen : l.length ≤ 1000000) :
    ∃ v' w', (Builtin.append_ #[23, 23] 23 #[v, .slice (some ⟨w.heap.size, 0, none⟩) 1 1]).run Tryz.prog (w.alloc (.cells #[.int .i64 x] 3)) = .ok v' w' ∧ OwnI B w' v' (l ++ [x]) ∧ Below B w w' ∧ (w.alloc (.cells #[.int .i64 x] 3)).grownBy w' v.ownBlock := by
  have hga : Grow w (w.alloc (.cells #[.int .i64 x] 3)) := Grow.alloc _ _
  have hsrc : Src Tryz.prog 1 23 (.slice (some ⟨w.heap.size, 0, none⟩) 1 1) 1 (icells [x]) (w.alloc (.cells #[.int .i64 x] 3)) := by
    refine Src.ofSlice _ Tryz.underlying23 ⟨w.heap.size, 0, none⟩ 1 1 (icells [x]) (by simp [icells]) (fun j u hu => ?_) (fun u hu => ?_)
    · cases j with
      | zero =>
        simp [icells] at hu
        subst hu
        rw [Addr.add_lit]
        simp only [World.cell?, heap_alloc_new]
        rfl
      | succ j => simp [icells] at hu
    · simp [icells] at hu; subst hu; rfl
  obtain ⟨v', w', h1, h2, h3, _⟩ := run_append_row (ty := 23) Tryz.underlying23 Tryz.infoI rfl (h.grow hga) hsrc (by simp; omega) (by rw [icells_len]; unfold maxLen; omega) (by rw [icells_len]; omega)
  exact ⟨v', w', h1, by rw [OwnI, icells_append]; exact h2, below_grown (hga.mono hB) (by simp; omega) (h.grow hga) h3, h3⟩

theorem numsP_snoc {x : List UInt8} : ∀ (l : List (List UInt8)), numsP (l ++ [x]) = match numsP l, numP x with
    | some r, some n => some (r ++ [n])
    | _, _ => none
  | [] => by
    rw [List.nil_append]
    unfold numsP
    cases h : numP x <;> simp [numsP]
  | s :: l => by
    rw [List.cons_append]
    unfold numsP
    rw [numsP_snoc l]
    cases numP s <;> cases numsP l <;> cases numP x <;> rfl

theorem numsP_pre : ∀ (a b : List (List UInt8)), numsP a = none → numsP (a ++ b) = none
  | [], b, h => by cases h
  | s :: a, b, h => by
    rw [List.cons_append]
    unfold numsP at h ⊢
    cases h1 : numP s with
    | none => simp
    | some n =>
      rw [h1] at h
      cases h2 : numsP a with
      | none => rw [numsP_pre a b h2]
      | some r => rw [h2] at h; cases h

theorem numsP_len : ∀ (l : List (List UInt8)) (r : List Int), numsP l = some r → r.length = l.length
  | [], r, h => by cases h; rfl
  | s :: l, r, h => by
    unfold numsP at h
    split at h
    · rename_i h2
      cases h
      rw [List.length_cons, List.length_cons, numsP_len l _ h2]
    · cases h
end Go.Proofs.YtdegmpimcappjaaGreatDoor

/- The program's reader of an upload. -/
namespace Go.Proofs.YtdegmpimcappjaaGreatDoor
open Go.RowKit Go.Gl Go.Front

/-- What the parser's block holds. -/
abbrev opCells (o : OpD) (pv : Value) : Array Value := #[.int .u64 o.id, .int .i64 o.kind, .string ⟨o.bucket.toArray⟩, .string ⟨o.key.toArray⟩, .string ⟨o.after.toArray⟩, .int .i64 o.n, .int .u64 o.upload, pv, .slice none 0 0]

/-- Only block g is another, and there are new ones. -/
abbrev GX (g : Nat) (w w' : World) : Prop := w.grownBy w' (some g)

theorem Base.gx {g : Nat} {w w' : World} (h : Base w) (hg8 : 8 ≤ g) (hg : GX g w w') : Base w' := by
  obtain ⟨_, _, _, hgs, hgb⟩ := hg
  have hk : ∀ b, b < 8 → w'.heap[b]? = w.heap[b]? := fun b hb => hgb b (Nat.lt_of_lt_of_le hb h.size) (fun e => by cases e; omega)
  refine ⟨Nat.le_trans h.size hgs, ?_, ?_, ?_, ?_, ?_⟩
  · obtain ⟨m, hm⟩ := h.max; exact ⟨m, cell_keep hm (hk 0 (by omega))⟩
  · have hp := h.pow
    unfold Lib.TabIs World.var? at hp ⊢
    rw [globalPow] at hp ⊢
    simp only [Option.bind_some] at hp ⊢
    rw [hk 1 (by omega)]
    exact hp
  · obtain ⟨ev, h1, h2⟩ := h.syn; exact ⟨ev, cell_keep h1 (hk 2 (by omega)), h2⟩
  · obtain ⟨ev, h1, h2⟩ := h.ran; exact ⟨ev, cell_keep h1 (hk 3 (by omega)), h2⟩
  · exact cell_keep h.deb (hk 5 (by omega))

theorem GX.refl (g : Nat) (w : World) : GX g w w := ⟨rfl, rfl, rfl, Nat.le_refl _, fun _ _ _ => rfl⟩
theorem GX.of {g : Nat} {w w' : World} (h : Grow w w') : GX g w w' := by
  obtain ⟨a, b, c, d, e⟩ := h
  exact ⟨a, b, c, d, fun k hk _ => e k hk⟩
theorem GX.trans {g : Nat} {a b c : World} (h : GX g a b) (k : GX g b c) : GX g a c := grown_trans h k
theorem GX.store {g : Nat} (w : World) (j : Nat) (v : Value) : GX g w (w.setCell ⟨g, j, none⟩ v) := grown_setCell w g j v

/-- A row of numbers in a block of numbers. -/
abbrev Pv (w : World) (v : Value) (l : List Int) : Prop := OwnI 0 w v l
theorem iv_nil (w : World) : Pv w (.slice none 0 0) [] := row1_nil _ _ _
theorem pv_store {W : World} {pv : Value} {l : List Int} {g : Nat} {cs : Array Value} {t : TypeId} {f : Nat × Nat} (h : Pv W pv l) (hP : W.heap[g]? = some (.cells cs t f)) (ht : t ≠ 3) (j : Nat) (v : Value) : Pv (W.setCell ⟨g, j, none⟩ v) pv l :=
  h.keep fun b hb => Below.heap_setCell _ _ _ _ (fun e => h.apart hP ht (by rw [hb, e]))

theorem GX.below {g : Nat} {a b c : World} (h : GX g a b) (k : Below a.heap.size b c) : GX g a c := by
  obtain ⟨h1, h2, h3, h4, h5⟩ := h
  obtain ⟨k1, k2, k3, k4, k5⟩ := k
  exact ⟨k1.trans h1, k2.trans h2, k3.trans h3, Nat.le_trans h4 (k4), fun j hj hn => (k5 j hj).trans (h5 j hj hn)⟩

def UpInv (g u : Nat) (P : List (List UInt8)) (W4 : World) (iv : Value) (wr : World) : Prop :=
  ∃ (i : Nat) (ns : List Int) (pv : Value), iv = .int .i64 i ∧ i ≤ P.length ∧ numsP (P.take i) = some ns ∧ wr.heap[g]? = some (.cells (opCells { opZero with upload := u, kind := 9 } pv) 73) ∧ OwnI W4.heap.size wr pv ns ∧ GX g W4 wr

def UpPost (g : Nat) (r : Option OpD) (w : World) (e : Ending) (w' : World) : Prop := match r with
  | some o => e = .returned (.tuple #[]) ∧ (∃ pv, w'.heap[g]? = some (.cells (opCells o pv) 73) ∧ Pv w' pv o.parts) ∧ GX g w w'
  | none => e = badE ∧ GX g w w'

theorem ext_take (s : List UInt8) : (⟨s.toArray⟩ : ByteArray).extract 0 16 = ⟨(s.take 16).toArray⟩ := by
  apply ByteArray.ext
  simp
theorem ext_drop (s : List UInt8) : (⟨s.toArray⟩ : ByteArray).extract 16 s.length = ⟨(s.drop 16).toArray⟩ := by
  apply ByteArray.ext
  simp
  exact List.take_of_length_le (by simp)

set_option maxRecDepth 100000 in
theorem upload_any {w : World} {g : Nat} {s how : List UInt8} (hb : Base w) (hg8 : 8 ≤ g) (hP : w.heap[g]? = some (.cells (opCells opZero (.slice none 0 0)) 73)) (hs : s.length ≤ 100000) :
    Calls Tryz.prog 103 #[.pointer (some ⟨g, 0, none⟩), .string ⟨how.toArray⟩, .string ⟨s.toArray⟩] w (UpPost g (uploadP how s) w) := by
  have hsz : (⟨s.toArray⟩ : ByteArray).size = s.length := by simp [ByteArray.size]
  obtain ⟨idL, HidL⟩ : ∃ l, Hid (l = if 16 < s.length then s.take 16 else s) := ⟨_, Lib.hid rfl⟩
  obtain ⟨reL, HreL⟩ : ∃ l, Hid (l = if 16 < s.length then s.drop 16 else []) := ⟨_, Lib.hid rfl⟩
  have hlw : g < w.heap.size := lt_of_getElem? hP
  have HP := Lib.hid hP
  have Hb := Lib.hid hb
  clear hP hb
  go_enter Tryz.func103, Tryz.ntmps103
  go_upto_if 21 with fail
  go_cut [6, 7] from 8 to 114 (fun a b wx => a = .string ⟨idL.toArray⟩ ∧ b = .string ⟨reL.toArray⟩ ∧ Grow w wx)
  case first =>
    by_cases h16 : 16 < s.length
    · have f1 : decide ((16 : Int) < (s.length : Int)) = true := by simp; omega
      have f2 : (16 : Int) ≤ (s.length : Int) := by omega
      have e1 : (⟨s.toArray⟩ : ByteArray).extract 0 16 = ⟨idL.toArray⟩ := by rw [HidL.out, if_pos h16]; exact ext_take s
      have e2 : (⟨s.toArray⟩ : ByteArray).extract 16 s.length = ⟨reL.toArray⟩ := by rw [HreL.out, if_pos h16]; exact ext_drop s
      go_wp2_with (go_quiet (fail))
      go_meet
      exact ⟨rfl, rfl, by (repeat (first | exact Below.refl _ _ | assumption | refine Below.drew ?_ | refine bDrewN ?_ | refine Below.setCell ?_ (by first | omega | (simp <;> omega)) _ | refine Below.alloc ?_ (by first | omega | (simp <;> omega)) _))⟩
    · have f1 : decide ((16 : Int) < (s.length : Int)) = false := by simp; omega
      have e1 : s = idL := by rw [HidL.out, if_neg h16]
      have e2 : reL = [] := by rw [HreL.out, if_neg h16]
      have E := Lib.hid (And.intro e1 e2)
      clear e1 e2
      go_wp2
      go_meet
      exact ⟨by rw [E.out.1], by rw [E.out.2], by (repeat (first | exact Below.refl _ _ | assumption | refine Below.drew ?_ | refine bDrewN ?_ | refine Below.setCell ?_ (by first | omega | (simp <;> omega)) _ | refine Below.alloc ?_ (by first | omega | (simp <;> omega)) _))⟩
  case rest =>
  obtain ⟨rfl, rfl, hg⟩ := hcut
  rename_i wy
  have hidl : idL.length ≤ 100000 := by
    rw [HidL.out]
    split
    · rw [List.length_take]; omega
    · exact hs
  have hU := unsixteen_any ⟨idL.toArray⟩ (Hb.out.grow hg) (by show idL.toArray.size ≤ _; simp; omega)
  have hUP : ∀ o, uploadP how s = o ↔ uploadP how s = o := fun _ => Iff.rfl
  have HM := must_ok
  have HB := must_bad
  have hPg : wc.heap[g]? = some (.cells (opCells opZero (.slice none 0 0)) 73) := (hg.block g hlw).trans HP.out
  have HUP : Hid (uploadP how s = match unhex idL with
    | none => none
    | some u =>
      match (if how = ([80, 85, 84] : List UInt8) then cutP reL (([38, 112, 97, 114, 116, 61] : List UInt8)) else none) with
      | some part => (numP part).map fun n => { opZero with upload := u, kind := 8, n := n }
      | none =>
        match (if how = ([80, 79, 83, 84] : List UInt8) then cutP reL (([38, 112, 97, 114, 116, 115, 61] : List UInt8)) else none) with
        | some parts => (numsP (Lib.split parts [44])).map fun l => { opZero with upload := u, kind := 9, parts := l }
        | none => if reL = [] ∧ how = ([68, 69, 76, 69, 84, 69] : List UInt8) then some { opZero with upload := u, kind := 10 } else none) := Lib.hid (by rw [HidL.out, HreL.out]; rfl)
  have hid0 : UnsPost (⟨idL.toArray⟩ : ByteArray).data.toList = UnsPost idL := rfl
  rw [hid0] at hU
  clear hid0 hUP
  cases hu : unhex idL with
  | none =>
    have HN : Hid (uploadP how s = none) := Lib.hid (by rw [HUP.out, hu])
    have HU := Lib.hid hU
    have Hu := Lib.hid hu
    clear hU hu
    go_wp2_with fail
    (with_reducible refine HU.out.mono ?_)
    rintro e w1 ⟨he, hg1⟩
    unfold UnsPost at he
    rw [Hu.out] at he
    obtain ⟨n, _, _, rfl⟩ := he
    go_wp2_with fail
    (with_reducible refine (HB _).mono ?_)
    rintro e w2 ⟨rfl, hw⟩
    have hw' := hw.symm
    subst hw'
    clear hw
    go_wp2
    refine ⟨rfl, ?_⟩
    rw [HN.out]
    exact ⟨rfl, GX.of (hg.trans hg1)⟩
  | some u =>
    have HU := Lib.hid hU
    have Hu := Lib.hid hu
    clear hU hu
    go_wp2_with fail
    (with_reducible refine HU.out.mono ?_)
    rintro e w1 ⟨he, hg1⟩
    unfold UnsPost at he
    rw [Hu.out] at he
    subst he
    go_wp2_with fail
    (with_reducible refine (HM _).mono ?_)
    rintro e w2 ⟨rfl, hw⟩
    have hw' := hw.symm
    subst hw'
    clear hw
    have hP1 : w1.heap[g]? = some (.cells (opCells opZero (.slice none 0 0)) 73) := (hg1.block g (Nat.lt_of_lt_of_le hlw hg.size)).trans hPg
    have hl1 : g < w1.heap.size := lt_of_getElem? hP1
    have hc6 : w1.cell? ⟨g, 6, none⟩ = some (.int .u64 ((opZero.upload : Nat) : Int)) := ck_cell hP1 rfl
    have hf6 : w1.frozen? ⟨g, 6, none⟩ = false := by simp [World.frozen?, hP1]
    have hP2 := setCell_heap hP1 6 (.int .u64 u)
    have hg2 : GX g w (w1.setCell ⟨g, 6, none⟩ (.int .u64 u)) := (GX.of (hg.trans hg1)).trans (GX.store w1 6 _)
    go_upto_region 6 with fail
    generalize w1.setCell ⟨g, 6, none⟩ (.int .u64 u) = W2 at *
    have hP2' : W2.heap[g]? = some (.cells (opCells { opZero with upload := u } (.slice none 0 0)) 73) := hP2
    clear hP2 hc6 hf6 hP1 hg1
    have hCP := Tryz.strings_CutPrefix ⟨reL.toArray⟩ ⟨#[38, 112, 97, 114, 116, 61]⟩ W2
    obtain ⟨b1, hb1⟩ : ∃ b, Lib.hasPrefix reL [38, 112, 97, 114, 116, 61] = b := ⟨_, rfl⟩
    have hCP1 : Calls Tryz.prog 82 #[.string ⟨reL.toArray⟩, .string ⟨#[38, 112, 97, 114, 116, 61]⟩] W2 fun e w' => e = .returned (.tuple #[.string ⟨(Lib.trimPrefix reL [38, 112, 97, 114, 116, 61]).toArray⟩, .bool b1]) ∧ w' = W2 := by
      rw [← hb1]
      exact hCP
    have HCP := Lib.hid hCP1
    have Hb1 := Lib.hid hb1
    clear hCP hCP1 hb1
    go_wp2_with fail
    (with_reducible refine HCP.out.mono ?_)
    rintro e w3 ⟨rfl, hw⟩
    have hw' := hw.symm
    subst hw'
    clear hw
    obtain ⟨p1, hp1⟩ : ∃ b, (how == [80, 85, 84]) = b := ⟨_, rfl⟩
    obtain ⟨c1, Hc1⟩ : ∃ b, Hid (b = (b1 && p1)) := ⟨_, Lib.hid rfl⟩
    go_upto_region 7 with fail
    go_cut [47] from 43 to 47 (fun c wx => c = .bool c1 ∧ wx = W2)
    case first =>
      cases b1
      · go_wp2
        go_meet
        exact ⟨by rw [Hc1.out]; rfl, rfl⟩
      · cases p1
        · go_wp2
          go_meet
          exact ⟨by rw [Hc1.out]; rfl, rfl⟩
        · go_wp2
          go_meet
          exact ⟨by rw [Hc1.out]; rfl, rfl⟩
    case rest =>
    obtain ⟨rfl, hw⟩ := hcut
    have hw' := hw.symm
    subst hw'
    clear hw
    have Hp1 := Lib.hid hp1
    clear hp1
    have hl2 : g < W2.heap.size := lt_of_getElem? hP2'
    cases c1 with
    | true =>
      have HH : Hid (uploadP how s = (numP (reL.drop 6)).map fun n => { opZero with upload := u, kind := 8, n := n }) := Lib.hid (by
        have hb := Hc1.out.symm
        simp only [Bool.and_eq_true] at hb
        have h1 : how = [80, 85, 84] := by have := Hp1.out; rw [hb.2] at this; exact eq_of_beq this
        have h2 : Lib.hasPrefix reL [38, 112, 97, 114, 116, 61] = true := Hb1.out.trans hb.1
        rw [HUP.out, Hu.out]
        simp only [if_pos h1, cutP, h2, if_true]
        rfl)
      have hb1t : Lib.trimPrefix reL [38, 112, 97, 114, 116, 61] = reL.drop 6 := by
        have hb := Hc1.out.symm
        simp only [Bool.and_eq_true] at hb
        unfold Lib.trimPrefix
        rw [Hb1.out, hb.1]
        rfl
      have hc1 : W2.cell? ⟨g, 1, none⟩ = some (.int .i64 0) := ck_cell hP2' rfl
      have hf1 : W2.frozen? ⟨g, 1, none⟩ = false := by simp [World.frozen?, hP2']
      have hP3 := setCell_heap hP2' 1 (.int .i64 8)
      have hg3 : GX g w (W2.setCell ⟨g, 1, none⟩ (.int .i64 8)) := hg2.trans (GX.store W2 1 _)
      go_upto_region 9 with fail
      generalize W2.setCell ⟨g, 1, none⟩ (.int .i64 8) = W3 at *
      have hP3' : W3.heap[g]? = some (.cells (opCells { opZero with upload := u, kind := 8 } (.slice none 0 0)) 73) := hP3
      have hl3 : g < W3.heap.size := lt_of_getElem? hP3'
      have hrl : reL.length ≤ 100000 := by
        rw [HreL.out]
        split
        · rw [List.length_drop]; omega
        · simp
      have hN := number_any ⟨(reL.drop 6).toArray⟩ (Hb.out.gx hg8 hg3) (by show (reL.drop 6).toArray.size ≤ _; simp; omega)
      have hid1 : NumPost (⟨(reL.drop 6).toArray⟩ : ByteArray).data.toList = NumPost (reL.drop 6) := rfl
      rw [hid1] at hN
      clear hid1 hP3 hc1 hf1 hP2' hl2 hg2
      cases hn : numP (reL.drop 6) with
      | none =>
        have HE : Hid (uploadP how s = none) := Lib.hid (by rw [HH.out, hn]; rfl)
        have HN := Lib.hid hN
        have Hn := Lib.hid hn
        clear hN hn
        go_wp2_with fail
        (with_reducible refine HN.out.mono ?_)
        rintro e w4 ⟨he, hg4⟩
        unfold NumPost at he
        rw [Hn.out] at he
        obtain ⟨n, rfl⟩ := he
        have hP4 := (hg4.block g hl3).trans hP3'
        have hc5 : w4.cell? ⟨g, 5, none⟩ = some (.int .i64 0) := ck_cell hP4 rfl
        have hf5 : w4.frozen? ⟨g, 5, none⟩ = false := by simp [World.frozen?, hP4]
        have hg5 : GX g w (w4.setCell ⟨g, 5, none⟩ (.int .i64 n)) := (hg3.trans (GX.of hg4)).trans (GX.store w4 5 _)
        go_upto_region 10 with fail
        generalize w4.setCell ⟨g, 5, none⟩ (.int .i64 n) = W5 at *
        clear hP4 hc5 hf5
        go_wp2_with fail
        (with_reducible refine (HB _).mono ?_)
        rintro e w2 ⟨rfl, hw⟩
        have hw' := hw.symm
        subst hw'
        clear hw
        go_wp2
        refine ⟨rfl, ?_⟩
        rw [HE.out]
        exact ⟨rfl, hg5⟩
      | some n =>
        have HE : Hid (uploadP how s = some { opZero with upload := u, kind := 8, n := n }) := Lib.hid (by rw [HH.out, hn]; rfl)
        have HN := Lib.hid hN
        have Hn := Lib.hid hn
        clear hN hn
        go_wp2_with fail
        (with_reducible refine HN.out.mono ?_)
        rintro e w4 ⟨he, hg4⟩
        unfold NumPost at he
        rw [Hn.out] at he
        subst he
        have hP4 := (hg4.block g hl3).trans hP3'
        have hc5 : w4.cell? ⟨g, 5, none⟩ = some (.int .i64 0) := ck_cell hP4 rfl
        have hf5 : w4.frozen? ⟨g, 5, none⟩ = false := by simp [World.frozen?, hP4]
        have hg5 : GX g w (w4.setCell ⟨g, 5, none⟩ (.int .i64 n)) := (hg3.trans (GX.of hg4)).trans (GX.store w4 5 _)
        have hP5 : (w4.setCell ⟨g, 5, none⟩ (.int .i64 n)).heap[g]? = some (.cells (opCells { opZero with upload := u, kind := 8, n := n } (.slice none 0 0)) 73) := setCell_heap hP4 5 (.int .i64 n)
        go_upto_region 10 with fail
        generalize w4.setCell ⟨g, 5, none⟩ (.int .i64 n) = W5 at *
        clear hP4 hc5 hf5
        go_wp2_with fail
        (with_reducible refine (HM _).mono ?_)
        rintro e w2 ⟨rfl, hw⟩
        have hw' := hw.symm
        subst hw'
        clear hw
        go_wp2
        refine ⟨rfl, .tuple #[], by simp [results, Tryz.results103, go_sem], ?_⟩
        rw [HE.out]
        exact ⟨rfl, ⟨_, hP5, iv_nil _⟩, hg5⟩
    | false =>
      have hCP := Tryz.strings_CutPrefix ⟨reL.toArray⟩ ⟨#[38, 112, 97, 114, 116, 115, 61]⟩ W2
      obtain ⟨b2, hb2⟩ : ∃ b, Lib.hasPrefix reL [38, 112, 97, 114, 116, 115, 61] = b := ⟨_, rfl⟩
      have hCP1 : Calls Tryz.prog 82 #[.string ⟨reL.toArray⟩, .string ⟨#[38, 112, 97, 114, 116, 115, 61]⟩] W2 fun e w' => e = .returned (.tuple #[.string ⟨(Lib.trimPrefix reL [38, 112, 97, 114, 116, 115, 61]).toArray⟩, .bool b2]) ∧ w' = W2 := by
        rw [← hb2]
        exact hCP
      have HCP2 := Lib.hid hCP1
      have Hb2 := Lib.hid hb2
      clear hCP hCP1 hb2
      obtain ⟨p2, hp2⟩ : ∃ b, (how == [80, 79, 83, 84]) = b := ⟨_, rfl⟩
      obtain ⟨c2, Hc2⟩ : ∃ b, Hid (b = (b2 && p2)) := ⟨_, Lib.hid rfl⟩
      have HH : Hid (uploadP how s = match (if how = ([80, 79, 83, 84] : List UInt8) then cutP reL (([38, 112, 97, 114, 116, 115, 61] : List UInt8)) else none) with
        | some parts => (numsP (Lib.split parts [44])).map fun l => { opZero with upload := u, kind := 9, parts := l }
        | none => if reL = [] ∧ how = ([68, 69, 76, 69, 84, 69] : List UInt8) then some { opZero with upload := u, kind := 10 } else none) := Lib.hid (by
        have hb := Hc1.out.symm
        have h2 : (if how = ([80, 85, 84] : List UInt8) then cutP reL (([38, 112, 97, 114, 116, 61] : List UInt8)) else none) = none := by
          split
          · rename_i h1
            have h3 := Hp1.out
            rw [h1] at h3
            have h4 : p1 = true := h3.symm.trans (by decide)
            rw [h4, Bool.and_true] at hb
            unfold cutP
            rw [Hb1.out, hb]
            rfl
          · rfl
        rw [HUP.out, Hu.out]
        simp only [h2])
      go_wp2_with fail
      (with_reducible refine HCP2.out.mono ?_)
      rintro e w3 ⟨rfl, hw⟩
      have hw' := hw.symm
      subst hw'
      clear hw
      go_upto_region 12 with fail
      go_cut [72] from 68 to 72 (fun c wx => c = .bool c2 ∧ wx = W2)
      case first =>
        cases b2
        · go_wp2
          go_meet
          exact ⟨by rw [Hc2.out]; rfl, rfl⟩
        · cases p2
          · go_wp2
            go_meet
            exact ⟨by rw [Hc2.out]; rfl, rfl⟩
          · go_wp2
            go_meet
            exact ⟨by rw [Hc2.out]; rfl, rfl⟩
      case rest =>
      obtain ⟨rfl, hw⟩ := hcut
      have hw' := hw.symm
      subst hw'
      clear hw
      have Hp2 := Lib.hid hp2
      clear hp2
      cases c2 with
      | true =>
        have HQ : Hid (uploadP how s = (numsP (Lib.split (reL.drop 7) [44])).map fun l => { opZero with upload := u, kind := 9, parts := l }) := Lib.hid (by
          have hb := Hc2.out.symm
          simp only [Bool.and_eq_true] at hb
          have h1 : how = [80, 79, 83, 84] := by have := Hp2.out; rw [hb.2] at this; exact eq_of_beq this
          have h2 : Lib.hasPrefix reL [38, 112, 97, 114, 116, 115, 61] = true := Hb2.out.trans hb.1
          rw [HH.out]
          simp only [if_pos h1, cutP, h2, if_true]
          rfl)
        have hb2t : Lib.trimPrefix reL [38, 112, 97, 114, 116, 115, 61] = reL.drop 7 := by
          have hb := Hc2.out.symm
          simp only [Bool.and_eq_true] at hb
          unfold Lib.trimPrefix
          rw [Hb2.out, hb.1]
          rfl
        have hrl : (reL.drop 7).length ≤ 100000 := by
          rw [List.length_drop, HreL.out]
          split
          · rw [List.length_drop]; omega
          · simp
        have hc1 : W2.cell? ⟨g, 1, none⟩ = some (.int .i64 0) := ck_cell hP2' rfl
        have hf1 : W2.frozen? ⟨g, 1, none⟩ = false := by simp [World.frozen?, hP2']
        have hP3 : (W2.setCell ⟨g, 1, none⟩ (.int .i64 9)).heap[g]? = some (.cells (opCells { opZero with upload := u, kind := 9 } (.slice none 0 0)) 73) := setCell_heap hP2' 1 (.int .i64 9)
        have hg3 : GX g w (W2.setCell ⟨g, 1, none⟩ (.int .i64 9)) := hg2.trans (GX.store W2 1 _)
        go_upto_region 14 with fail
        generalize W2.setCell ⟨g, 1, none⟩ (.int .i64 9) = W3 at *
        have hb3 := Hb.out.gx hg8 hg3
        have HS := Lib.hid (split_any (reL.drop 7) [44] hb3 (by omega) (by simp))
        have hPl := split_len (reL.drop 7) [44] (by simp)
        have hPm : ∀ x ∈ Lib.split (reL.drop 7) [44], x.length ≤ 100000 := fun x hx => Nat.le_trans (split_mem hx) hrl
        generalize Lib.split (reL.drop 7) [44] = P at *
        have hl3 : g < W3.heap.size := lt_of_getElem? hP3
        have hPl2 : P.length ≤ 100001 := by omega
        have HPm := Lib.hid hPm
        clear hPm hPl hc1 hf1 hP2' hl2
        go_wp2_with fail
        (with_reducible refine HS.out.mono ?_)
        rintro e w4 ⟨rfl, hw4⟩
        have hrow : w4.heap[W3.heap.size]? = some (.cells (scells P).toArray 9) := by rw [hw4]; exact heap_alloc_new _ _
        have hg34 : Grow W3 w4 := by rw [hw4]; exact Grow.alloc _ _
        clear hw4
        have hP4 := (hg34.block g hl3).trans hP3
        have hlr : W3.heap.size < w4.heap.size := lt_of_getElem? hrow
        have hg4 : GX g w w4 := hg3.trans (GX.of hg34)
        have hb4 := hb3.grow hg34
        have hgW : g ≠ W3.heap.size := by omega
        have hl4 : g < w4.heap.size := by omega
        generalize W3.heap.size = R at *
        have Hrow := Lib.hid hrow
        have Hb4 := Lib.hid hb4
        have Hg4 := Lib.hid hg4
        have HP4 := Lib.hid hP4
        clear hrow hb4 hg4 hP4 hb3 hg3 hP3 hg34 hg2 hb2t
        go_wp2_with fail
        go_loopw [80] (fun iv wr => UpInv g u P w4 iv wr) (fun iv _ => P.length - (intOf iv).toNat)
        case atStart => exact ⟨0, [], _, rfl, Nat.zero_le _, rfl, HP4.out, row1_nil _ _ _, GX.refl _ _⟩
        case round =>
          obtain ⟨i, ns, pv, rfl, hi, hns, hPr, hown, hgr⟩ := hrel
          have hbr := Hb4.out.gx hg8 hgr
          by_cases hlt : i < P.length
          · obtain ⟨x, hx⟩ : ∃ x, P[i]? = some x := ⟨P[i], by simp [hlt]⟩
            have hrr : wr.heap[R]? = some (.cells (scells P).toArray 9) := by
              obtain ⟨_, _, _, _, h5⟩ := hgr
              exact (h5 R hlr (fun e => hgW (by cases e; rfl))).trans Hrow.out
            have hcx : wr.cell? ⟨R, i, none⟩ = some (.string ⟨x.toArray⟩) := ck_cell hrr (by simp [scells, hx])
            have hi1 : (i : Int) < (P.length : Int) := by omega
            have hi0 : (0 : Int) ≤ (i : Int) := by omega
            have hwi : IntKind.i64.wrap ((i : Int) + 1) = (i : Int) + 1 := IntWalk.i64_in _ (by omega)
            have hxl := HPm.out x (List.mem_of_getElem? hx)
            have hN := number_any ⟨x.toArray⟩ hbr (by show x.toArray.size ≤ _; simp; omega)
            have hid1 : NumPost (⟨x.toArray⟩ : ByteArray).data.toList = NumPost x := rfl
            rw [hid1] at hN
            have htk : P.take (i + 1) = P.take i ++ [x] := by rw [List.take_add_one, hx]; rfl
            have hsn := numsP_snoc (x := x) (P.take i)
            rw [← htk, hns] at hsn
            clear hid1
            have lR : R < wr.heap.size := lt_of_getElem? hrr
            have lg : g < wr.heap.size := lt_of_getElem? hPr
            cases hn : numP x with
            | none =>
              rw [hn] at hsn
              have HE : Hid (uploadP how s = none) := Lib.hid (by
                have := numsP_pre _ (P.drop (i + 1)) hsn
                rw [List.take_append_drop] at this
                rw [HQ.out, this]
                rfl)
              have HN := Lib.hid hN
              have Hn := Lib.hid hn
              have Hgr := Lib.hid hgr
              clear hN hn hsn hns htk hx hrr hown hPr hbr hgr hwi
              go_wp2_with fail
              (with_reducible refine HN.out.mono ?_)
              rintro e w5 ⟨he, hg5⟩
              unfold NumPost at he
              rw [Hn.out] at he
              obtain ⟨n, rfl⟩ := he
              go_wp2_with fail
              (with_reducible refine (HB _).mono ?_)
              rintro e w6 ⟨rfl, hw⟩
              have hw' := hw.symm
              subst hw'
              clear hw
              go_wp2
              refine ⟨rfl, ?_⟩
              rw [HE.out]
              exact ⟨rfl, Hg4.out.trans (Hgr.out.trans (GX.of hg5))⟩
            | some n =>
              rw [hn] at hsn
              have Hsn := Lib.hid hsn
              have HN := Lib.hid hN
              have Hn := Lib.hid hn
              have Hgr := Lib.hid hgr
              have Hown := Lib.hid hown
              have HPr := Lib.hid hPr
              have hnl := numsP_len _ _ hns
              obtain ⟨ba, bc, hbv⟩ := hown.slice'
              have hnl2 : ns.length = i := by rw [hnl, List.length_take]; omega
              rw [hnl2] at hbv
              clear hN hn hsn hns htk hx hrr hown hPr hbr hgr
              go_wp2_with fail
              (with_reducible refine HN.out.mono ?_)
              rintro e w5 ⟨he, hg5⟩
              unfold NumPost at he
              rw [Hn.out] at he
              subst he
              go_wp2_with fail
              (with_reducible refine (HM _).mono ?_)
              rintro e w6 ⟨rfl, hw⟩
              have hw' := hw.symm
              subst hw'
              clear hw
              have hP5 := (hg5.block g lg).trans HPr.out
              subst hbv
              have hc7 : w5.cell? ⟨g, 7, none⟩ = some (.slice ba i bc) := ck_cell hP5 rfl
              have hgr5 : GX g w4 w5 := Hgr.out.trans (GX.of hg5)
              have hs5 : w4.heap.size ≤ w5.heap.size := by obtain ⟨_, _, _, h4, _⟩ := hgr5; exact h4
              obtain ⟨v', w', r1, r2, r3, _⟩ := append_int (x := n) (Hown.out.grow hg5) hs5 (by omega)
              obtain ⟨ba', bc', hv'⟩ := OwnI.slice' r2
              generalize (ns ++ [n]).length = m' at hv'
              subst hv'
              have hP6 := (r3.block g hl4).trans hP5
              have hc7' : w'.cell? ⟨g, 7, none⟩ = some (.slice ba i bc) := ck_cell hP6 rfl
              have hf7 : w'.frozen? ⟨g, 7, none⟩ = false := by simp [World.frozen?, hP6]
              have hg6 : GX g w4 w' := hgr5.below r3
              have Hrel : Hid (UpInv g u P w4 (.int .i64 ((i : Int) + 1)) (w'.setCell ⟨g, 7, none⟩ (.slice ba' m' bc'))) := Lib.hid ⟨i + 1, ns ++ [n], _, by simp, hlt, Hsn.out, setCell_heap hP6 7 _, r2.keep (fun b hb => Below.heap_setCell _ _ _ _ (fun e => by have := (r2.lt hb).1; simp at e; omega)), hg6.trans (GX.store w' 7 _)⟩
              have Hrun := Lib.hid r1
              clear r1 r2 r3 hP5 hP6 hg6 hgr5 hs5 hg5 hcx
              go_wp2_with (at_builtin; refine wpList_append rfl rfl rfl rfl Hrun.out ?_)
              go_roundw
              case rel => exact Hrel.out
              case measure => simp [intOf]; omega
          · have hi1 : ¬ ((i : Int) < (P.length : Int)) := by omega
            have hil : i = P.length := by omega
            have HE : Hid (uploadP how s = some { opZero with upload := u, kind := 9, parts := ns }) := Lib.hid (by
              rw [hil, List.take_of_length_le (Nat.le_refl _)] at hns
              rw [HQ.out, hns]
              rfl)
            have Hend := Lib.hid (And.intro hPr (And.intro hown hgr))
            clear hns hPr hown hgr hbr
            go_wp2
            refine ⟨rfl, .tuple #[], by simp [results, Tryz.results103, go_sem], ?_⟩
            rw [HE.out]
            exact ⟨rfl, ⟨pv, Hend.out.1, Hend.out.2.1.mono (Nat.zero_le _)⟩, Hg4.out.trans Hend.out.2.2⟩
      | false =>
        have HK : Hid (uploadP how s = if reL = [] ∧ how = ([68, 69, 76, 69, 84, 69] : List UInt8) then some { opZero with upload := u, kind := 10 } else none) := Lib.hid (by
          have hb := Hc2.out.symm
          have h2 : (if how = ([80, 79, 83, 84] : List UInt8) then cutP reL (([38, 112, 97, 114, 116, 115, 61] : List UInt8)) else none) = none := by
            split
            · rename_i h1
              have h3 := Hp2.out
              rw [h1] at h3
              have h4 : p2 = true := h3.symm.trans (by decide)
              rw [h4, Bool.and_true] at hb
              unfold cutP
              rw [Hb2.out, hb]
              rfl
            · rfl
          rw [HH.out]
          simp only [h2])
        have bad : ∀ W : World, GX g w W → ¬ (reL = [] ∧ how = ([68, 69, 76, 69, 84, 69] : List UInt8)) → UpPost g (uploadP how s) w badE W := fun W hW hne => by
          rw [HK.out, if_neg hne]
          exact ⟨rfl, hW⟩
        have Hbad := Lib.hid bad
        clear bad
        by_cases hre : reL = []
        · by_cases hdel : how = ([68, 69, 76, 69, 84, 69] : List UInt8)
          · have HE : Hid (uploadP how s = some { opZero with upload := u, kind := 10 }) := Lib.hid (by rw [HK.out, if_pos ⟨hre, hdel⟩])
            have k1 : reL.isEmpty = true := by rw [hre]; rfl
            have k2 : (how == [68, 69, 76, 69, 84, 69]) = true := by rw [hdel]; rfl
            clear hre hdel
            go_wp2_with fail
            (with_reducible refine (HM _).mono ?_)
            rintro e w5 ⟨rfl, hw⟩
            have hw' := hw.symm
            subst hw'
            clear hw
            have hc1 : W2.cell? ⟨g, 1, none⟩ = some (.int .i64 0) := ck_cell hP2' rfl
            have hf1 : W2.frozen? ⟨g, 1, none⟩ = false := by simp [World.frozen?, hP2']
            have hg3 : GX g w (W2.setCell ⟨g, 1, none⟩ (.int .i64 10)) := hg2.trans (GX.store W2 1 _)
            have hP3 : (W2.setCell ⟨g, 1, none⟩ (.int .i64 10)).heap[g]? = some (.cells (opCells { opZero with upload := u, kind := 10 } (.slice none 0 0)) 73) := setCell_heap hP2' 1 (.int .i64 10)
            go_wp2
            refine ⟨rfl, .tuple #[], by simp [results, Tryz.results103, go_sem], ?_⟩
            rw [HE.out]
            exact ⟨rfl, ⟨_, hP3, iv_nil _⟩, hg3⟩
          · have k1 : reL.isEmpty = true := by rw [hre]; rfl
            have k2 : (how == [68, 69, 76, 69, 84, 69]) = false := by simpa using hdel
            have HN : Hid (¬ (reL = [] ∧ how = ([68, 69, 76, 69, 84, 69] : List UInt8))) := Lib.hid (fun h => hdel h.2)
            clear hre hdel
            go_wp2_with fail
            (with_reducible refine (HB _).mono ?_)
            rintro e w5 ⟨rfl, hw⟩
            have hw' := hw.symm
            subst hw'
            clear hw
            go_wp2
            exact ⟨rfl, Hbad.out _ hg2 HN.out⟩
        · have k1 : reL.isEmpty = false := by cases reL <;> first | rfl | exact absurd rfl hre
          have HN : Hid (¬ (reL = [] ∧ how = ([68, 69, 76, 69, 84, 69] : List UInt8))) := Lib.hid (fun h => hre h.1)
          clear hre
          go_wp2_with fail
          (with_reducible refine (HB _).mono ?_)
          rintro e w5 ⟨rfl, hw⟩
          have hw' := hw.symm
          subst hw'
          clear hw
          go_wp2
          exact ⟨rfl, Hbad.out _ hg2 HN.out⟩
end Go.Proofs.YtdegmpimcappjaaGreatDoor

/- A map of constants, filled and read. -/
namespace Go.Proofs.YtdegmpimcappjaaGreatDoor
open Go.RowKit Go.Gl Go.Front Go.Maps Go.WideMaps

theorem zeroI (w : World) : (zeroValue 3).run Tryz.prog w = .ok (.int .i64 0) w := by kernel_rfl

theorem lawS : Keyed Tryz.prog 9 := string_keyed Tryz.underlying9

/-- One more constant laid. -/
theorem map_put {w : World} {b n : Nat} {D : DataW Unit} (h : w.ownsMap Tryz.prog 9 (plainElem Tryz.prog 3) b n D) (hn : n ≤ 100) {s : List UInt8} (hs : s.length ≤ 100) {c : Int} (hc : 0 ≤ c ∧ c ≤ 100) :
    ∃ w', (Instr.mapUpdate 134 (.map (some b)) (.string ⟨s.toArray⟩) (.int .i64 c)).run Tryz.prog w = .ok () w' ∧ w'.ownsMap Tryz.prog 9 (plainElem Tryz.prog 3) b (n + 1) (D.put (.string s) (.lit (.int .i64 c))) ∧ w.grownBy w' (some b) := by
  exact h.update lawS Tryz.underlying134 (by unfold maxLen; omega) (keyOf_string_mk Tryz.underlying9 (s := ⟨s.toArray⟩) (by show s.toArray.size ≤ _; unfold maxLen; simp; omega)) (plainElem_int Tryz.underlying3 (WalkArith.wf_i64 (by omega)))

theorem grown_drop {B : Nat} {a b w' : World} (h : Below B a b) (hB : B ≤ b.heap.size) {g : Nat} (hg : B ≤ g) (k : b.grownBy w' (some g)) : Below B a w' :=
  Below.grown h k hB (fun j hj => by cases hj; exact hg)

theorem str_inj {a b : List UInt8} (h : a ≠ b) : (Lit.string a) ≠ (Lit.string b) := fun e => h (by cases e; rfl)

/-- The four kinds of a request for an object. -/
theorem map_kinds (w : World) (how : List UInt8) (hl : how.length ≤ 1000000) :
    ∃ w1 w2 w3 w4, (Instr.mapUpdate 134 (.map (some w.heap.size)) (.string ⟨#[80, 85, 84]⟩) (.int .i64 3)).run Tryz.prog (w.alloc (.map #[] 0)) = .ok () w1 ∧
      (Instr.mapUpdate 134 (.map (some w.heap.size)) (.string ⟨#[71, 69, 84]⟩) (.int .i64 4)).run Tryz.prog w1 = .ok () w2 ∧
      (Instr.mapUpdate 134 (.map (some w.heap.size)) (.string ⟨#[68, 69, 76, 69, 84, 69]⟩) (.int .i64 5)).run Tryz.prog w2 = .ok () w3 ∧
      (Instr.mapUpdate 134 (.map (some w.heap.size)) (.string ⟨#[80, 79, 83, 84]⟩) (.int .i64 7)).run Tryz.prog w3 = .ok () w4 ∧
      (Instr.lookup 134 (.map (some w.heap.size)) (.string ⟨how.toArray⟩) false).run Tryz.prog w4 = .ok (.int .i64 (kindK how)) w4 ∧ Grow w w4 := by
  have h0 := World.ownsMap_made w Tryz.prog 9 (plainElem (H := Unit) Tryz.prog 3)
  have g0 : Grow w (w.alloc (.map #[] 0)) := Grow.alloc _ _
  obtain ⟨w1, r1, h1, g1⟩ := map_put h0 (by omega) (s := [80, 85, 84]) (by simp) (c := 3) (by omega)
  have d1 := grown_drop g0 g0.size (Nat.le_refl _) g1
  obtain ⟨w2, r2, h2, g2⟩ := map_put h1 (by omega) (s := [71, 69, 84]) (by simp) (c := 4) (by omega)
  have d2 := grown_drop d1 d1.size (Nat.le_refl _) g2
  obtain ⟨w3, r3, h3, g3⟩ := map_put h2 (by omega) (s := [68, 69, 76, 69, 84, 69]) (by simp) (c := 5) (by omega)
  have d3 := grown_drop d2 d2.size (Nat.le_refl _) g3
  obtain ⟨w4, r4, h4, g4⟩ := map_put h3 (by omega) (s := [80, 79, 83, 84]) (by simp) (c := 7) (by omega)
  have d4 := grown_drop d3 d3.size (Nat.le_refl _) g4
  obtain ⟨c, hrun, hat, _⟩ := h4.lookup_int lawS Tryz.underlying134 Tryz.underlying3 (zeroI w4) (key := .string ⟨how.toArray⟩) (keyOf_string_mk Tryz.underlying9 (s := ⟨how.toArray⟩) (by show how.toArray.size ≤ _; unfold maxLen; simp; omega))
  refine ⟨w1, w2, w3, w4, r1, r2, r3, r4, ?_, d4⟩
  have hk : ∀ l : List UInt8, WideAt.IsKeyLit (Lit.string l) := fun l => trivial
  have e : (⟨how.toArray⟩ : ByteArray).data.toList = how := rfl
  rw [e] at hat
  have hc : c = kindK how := by
    unfold kindK
    by_cases c4 : how = [80, 79, 83, 84]
    · subst c4
      rw [atKey_put_same (by repeat (first | exact isMap_empty | refine IsMap.put ?_ _ _)) (hk _)] at hat
      cases hat
      rfl
    · rw [atKey_put_other (str_inj c4)] at hat
      by_cases c3 : how = [68, 69, 76, 69, 84, 69]
      · subst c3
        rw [atKey_put_same (by repeat (first | exact isMap_empty | refine IsMap.put ?_ _ _)) (hk _)] at hat
        cases hat
        rfl
      · rw [atKey_put_other (str_inj c3)] at hat
        by_cases c2 : how = [71, 69, 84]
        · subst c2
          rw [atKey_put_same (by repeat (first | exact isMap_empty | refine IsMap.put ?_ _ _)) (hk _)] at hat
          cases hat
          rfl
        · rw [atKey_put_other (str_inj c2)] at hat
          by_cases c1 : how = [80, 85, 84]
          · subst c1
            rw [atKey_put_same (by repeat (first | exact isMap_empty | refine IsMap.put ?_ _ _)) (hk _)] at hat
            cases hat
            rfl
          · rw [atKey_put_other (str_inj c1)] at hat
            rw [if_neg c1, if_neg c2, if_neg c3, if_neg c4]
            have : (Lit.int .i64 0 : Lit) = .int .i64 c := by
              have := hat
              simpa [DataW.atKey] using this
            cases this
            rfl
  rw [← hc]
  exact hrun

/-- The two kinds of a request for a bucket. -/
theorem map_kinds2 (w : World) (how : List UInt8) (hl : how.length ≤ 1000000) :
    ∃ w1 w2, (Instr.mapUpdate 134 (.map (some w.heap.size)) (.string ⟨#[80, 85, 84]⟩) (.int .i64 1)).run Tryz.prog (w.alloc (.map #[] 0)) = .ok () w1 ∧
      (Instr.mapUpdate 134 (.map (some w.heap.size)) (.string ⟨#[68, 69, 76, 69, 84, 69]⟩) (.int .i64 2)).run Tryz.prog w1 = .ok () w2 ∧
      (Instr.lookup 134 (.map (some w.heap.size)) (.string ⟨how.toArray⟩) false).run Tryz.prog w2 = .ok (.int .i64 (kindB how)) w2 ∧ Grow w w2 := by
  have h0 := World.ownsMap_made w Tryz.prog 9 (plainElem (H := Unit) Tryz.prog 3)
  have g0 : Grow w (w.alloc (.map #[] 0)) := Grow.alloc _ _
  obtain ⟨w1, r1, h1, g1⟩ := map_put h0 (by omega) (s := [80, 85, 84]) (by simp) (c := 1) (by omega)
  have d1 := grown_drop g0 g0.size (Nat.le_refl _) g1
  obtain ⟨w2, r2, h2, g2⟩ := map_put h1 (by omega) (s := [68, 69, 76, 69, 84, 69]) (by simp) (c := 2) (by omega)
  have d2 := grown_drop d1 d1.size (Nat.le_refl _) g2
  obtain ⟨c, hrun, hat, _⟩ := h2.lookup_int lawS Tryz.underlying134 Tryz.underlying3 (zeroI w2) (key := .string ⟨how.toArray⟩) (keyOf_string_mk Tryz.underlying9 (s := ⟨how.toArray⟩) (by show how.toArray.size ≤ _; unfold maxLen; simp; omega))
  refine ⟨w1, w2, r1, r2, ?_, d2⟩
  have hk : ∀ l : List UInt8, WideAt.IsKeyLit (Lit.string l) := fun l => trivial
  have e : (⟨how.toArray⟩ : ByteArray).data.toList = how := rfl
  rw [e] at hat
  have hc : c = kindB how := by
    unfold kindB
    by_cases c3 : how = [68, 69, 76, 69, 84, 69]
    · subst c3
      rw [atKey_put_same (by repeat (first | exact isMap_empty | refine IsMap.put ?_ _ _)) (hk _)] at hat
      cases hat
      rfl
    · rw [atKey_put_other (str_inj c3)] at hat
      by_cases c1 : how = [80, 85, 84]
      · subst c1
        rw [atKey_put_same (by repeat (first | exact isMap_empty | refine IsMap.put ?_ _ _)) (hk _)] at hat
        cases hat
        rfl
      · rw [atKey_put_other (str_inj c1)] at hat
        rw [if_neg c1, if_neg c3]
        have : (Lit.int .i64 0 : Lit) = .int .i64 c := by
          have := hat
          simpa [DataW.atKey] using this
        cases this
        rfl
  rw [← hc]
  exact hrun
end Go.Proofs.YtdegmpimcappjaaGreatDoor

/- The program's reader of a target. -/
namespace Go.Proofs.YtdegmpimcappjaaGreatDoor
open Go.RowKit Go.Gl Go.Front

theorem cut3_any (s sep : List UInt8) {w : World} (hb : Base w) (hs : s.length ≤ 1000000) :
    Calls Tryz.prog 105 #[.string ⟨s.toArray⟩, .string ⟨sep.toArray⟩] w fun e w' => e = .returned (.tuple #[.string ⟨(Lib.cut s sep).1.toArray⟩, .string ⟨(Lib.cut s sep).2.1.toArray⟩, .bool (Lib.cut s sep).2.2]) ∧ Grow w w' := by
  obtain ⟨m, hm⟩ := hb.max
  refine (Tryz.strings_Cut ⟨s.toArray⟩ ⟨sep.toArray⟩ m w (by show s.toArray.size < _; simp; omega) hm).mono ?_
  rintro e w' ⟨rfl, k, rfl⟩
  exact ⟨rfl, bDrewN (Below.refl _ _)⟩

theorem cut_lens (s sep : List UInt8) : (Lib.cut s sep).1.length ≤ s.length ∧ (Lib.cut s sep).2.1.length ≤ s.length := by
  unfold Lib.cut
  split
  · constructor
    · rw [List.length_take]; exact Nat.min_le_right _ _
    · rw [List.length_drop]; omega
  · simp

theorem contains_any (s sub : List UInt8) {w : World} (hb : Base w) (hs : s.length ≤ 1000000) :
    Calls Tryz.prog 106 #[.string ⟨s.toArray⟩, .string ⟨sub.toArray⟩] w fun e w' => e = .returned (.bool (Lib.contains s sub)) ∧ w' = w := by
  obtain ⟨m, hm⟩ := hb.max
  exact Tryz.strings_Contains ⟨s.toArray⟩ ⟨sub.toArray⟩ m w (by show s.toArray.size < _; simp; omega) hm

theorem cutM_any (s sep : List UInt8) {w : World} (hb : Base w) (hs : s.length ≤ 1000000) : Calls Tryz.prog 104 #[.string ⟨s.toArray⟩, .string ⟨sep.toArray⟩] w (CutPost (Lib.cut s sep) w) :=
  cut_any ⟨s.toArray⟩ ⟨sep.toArray⟩ w hb (by show s.toArray.size < _; simp; omega)

theorem textM_any (s : List UInt8) (w : World) (hs : s.length ≤ 1000000) : Calls Tryz.prog 107 #[.string ⟨s.toArray⟩] w (TxtPost (unesc s) w) :=
  text_any ⟨s.toArray⟩ w (by show s.toArray.size ≤ _; simp; omega)

set_option maxRecDepth 100000 in
set_option maxHeartbeats 4000000 in
/-- What is asked for. -/
theorem qtarget_any {w : World} {g : Nat} {s how : List UInt8} (hb : Base w) (hg8 : 8 ≤ g) (hP : w.heap[g]? = some (.cells (opCells opZero (.slice none 0 0)) 73)) (hs : s.length ≤ 100000) (hh : how.length ≤ 100000) :
    Calls Tryz.prog 81 #[.pointer (some ⟨g, 0, none⟩), .string ⟨how.toArray⟩, .string ⟨s.toArray⟩] w (UpPost g (targetP how s) w) := by
  have hlw : g < w.heap.size := lt_of_getElem? hP
  have HM := must_ok
  have HB := must_bad
  obtain ⟨b0, hb0⟩ : ∃ b, Lib.hasPrefix s [47, 63, 117, 112, 108, 111, 97, 100, 61] = b := ⟨_, rfl⟩
  have hCP := Tryz.strings_CutPrefix ⟨s.toArray⟩ ⟨#[47, 63, 117, 112, 108, 111, 97, 100, 61]⟩ w
  have hCP1 : Calls Tryz.prog 82 #[.string ⟨s.toArray⟩, .string ⟨#[47, 63, 117, 112, 108, 111, 97, 100, 61]⟩] w fun e w' => e = .returned (.tuple #[.string ⟨(Lib.trimPrefix s [47, 63, 117, 112, 108, 111, 97, 100, 61]).toArray⟩, .bool b0]) ∧ w' = w := by
    rw [← hb0]
    exact hCP
  have HCP := Lib.hid hCP1
  have Hb0 := Lib.hid hb0
  have HP := Lib.hid hP
  have Hb := Lib.hid hb
  clear hCP hCP1 hb0 hP hb
  cases b0 with
  | true =>
    have hb1t : Lib.trimPrefix s [47, 63, 117, 112, 108, 111, 97, 100, 61] = s.drop 9 := by
      unfold Lib.trimPrefix
      rw [Hb0.out]
      rfl
    have HT : Hid (targetP how s = uploadP how (s.drop 9)) := Lib.hid (by
      unfold targetP cutP
      rw [Hb0.out]
      rfl)
    have HU := Lib.hid (upload_any (how := how) Hb.out hg8 HP.out (s := s.drop 9) (by rw [List.length_drop]; omega))
    go_enter Tryz.func81, Tryz.ntmps81
    go_wp2_with fail
    (with_reducible refine HCP.out.mono ?_)
    rintro e w3 ⟨rfl, hw⟩
    have hw' := hw.symm
    subst hw'
    clear hw
    go_wp2_with fail
    (with_reducible refine HU.out.mono ?_)
    intro e w4 he
    unfold UpPost at he
    cases hu : uploadP how (s.drop 9) with
    | none =>
      rw [hu] at he
      obtain ⟨rfl, hgx⟩ := he
      have HE : Hid (targetP how s = none) := Lib.hid (by rw [HT.out, hu])
      clear hu hb1t
      go_wp2
      refine ⟨rfl, ?_⟩
      rw [HE.out]
      exact ⟨rfl, hgx⟩
    | some o =>
      rw [hu] at he
      obtain ⟨rfl, hpv, hgx⟩ := he
      have HE : Hid (targetP how s = some o) := Lib.hid (by rw [HT.out, hu])
      have Hpv := Lib.hid hpv
      clear hu hb1t hpv
      go_wp2
      refine ⟨rfl, .tuple #[], by simp [results, Tryz.results81, go_sem], ?_⟩
      rw [HE.out]
      exact ⟨rfl, Hpv.out, hgx⟩
  | false =>
    have hb1t : Lib.trimPrefix s [47, 63, 117, 112, 108, 111, 97, 100, 61] = s := by
      unfold Lib.trimPrefix
      rw [Hb0.out]
      rfl
    obtain ⟨⟨s0, s1, ok0⟩, Hc0⟩ : ∃ c, Hid (c = Lib.cut s [47]) := ⟨_, Lib.hid rfl⟩
    have hl1 : s1.length ≤ 100000 := by
      have := (cut_lens s [47]).2
      rw [← Hc0.out] at this
      exact Nat.le_trans this hs
    have hC0 := cutM_any s [47] Hb.out (by omega)
    rw [← Hc0.out] at hC0
    unfold CutPost at hC0
    have HC0 := Lib.hid hC0
    clear hC0 hb1t
    have HT : Hid (targetP how s = match (s0, s1, ok0) with
      | (_, _, false) => none
      | (_, s1, true) =>
        match Lib.cut s1 [47] with
        | (name, key, is) =>
          if is = true ∧ Lib.contains name [63] = false then (unesc key).map fun k => { opZero with bucket := name, key := k, kind := kindK how }
          else match Lib.cut s1 (([63, 112, 114, 101, 102, 105, 120, 61] : List UInt8)) with
            | (name, rest, true) =>
              match Lib.cut rest (([38, 97, 102, 116, 101, 114, 61] : List UInt8)) with
              | (_, _, false) => none
              | (pre, rest, true) =>
                match Lib.cut rest (([38, 110, 61] : List UInt8)) with
                | (_, _, false) => none
                | (aft, n, true) => match unesc pre, unesc aft, numP n with
                  | some k, some a, some n => some { opZero with kind := 6, bucket := name, key := k, after := a, n := n }
                  | _, _, _ => none
            | (_, _, false) => some { opZero with bucket := s1, kind := kindB how }) := Lib.hid (by
      rw [Hc0.out]
      unfold targetP cutP
      rw [Hb0.out]
      rfl)
    go_enter Tryz.func81, Tryz.ntmps81
    go_wp2_with fail
    (with_reducible refine HCP.out.mono ?_)
    rintro e w3 ⟨rfl, hw⟩
    have hw' := hw.symm
    subst hw'
    clear hw
    go_wp2_with fail
    (with_reducible refine HC0.out.mono ?_)
    rintro e w1 ⟨he, hg1⟩
    cases ok0 with
    | false =>
      have he' : e = badE := he
      subst he'
      have HE : Hid (targetP how s = none) := Lib.hid HT.out
      clear he
      go_wp2
      refine ⟨rfl, ?_⟩
      rw [HE.out]
      exact ⟨rfl, GX.of hg1⟩
    | true =>
      have he' : e = .returned (.tuple #[.string ⟨s0.toArray⟩, .string ⟨s1.toArray⟩]) := he
      subst he'
      clear he HC0 Hc0 HCP Hb0
      obtain ⟨⟨n1, k1, is1⟩, Hc1⟩ : ∃ c, Hid (c = Lib.cut s1 [47]) := ⟨_, Lib.hid rfl⟩
      have hln : n1.length ≤ 100000 ∧ k1.length ≤ 100000 := by
        have := cut_lens s1 [47]
        rw [← Hc1.out] at this
        exact ⟨Nat.le_trans this.1 hl1, Nat.le_trans this.2 hl1⟩
      have hC1 := cut3_any s1 [47] (Hb.out.grow hg1) (by omega)
      rw [← Hc1.out] at hC1
      have HC1 := Lib.hid hC1
      clear hC1
      go_wp2_with fail
      (with_reducible refine HC1.out.mono ?_)
      rintro e w2 ⟨rfl, hg2⟩
      have hg02 : Grow w w2 := hg1.trans hg2
      have hP2 : w2.heap[g]? = some (.cells (opCells opZero (.slice none 0 0)) 73) := (hg02.block g hlw).trans HP.out
      have hb2 := Hb.out.grow hg02
      obtain ⟨q1, hq1⟩ : ∃ b, Lib.contains n1 [63] = b := ⟨_, rfl⟩
      have hK := contains_any n1 [63] hb2 (by omega)
      rw [hq1] at hK
      have HK := Lib.hid hK
      have Hq1 := Lib.hid hq1
      have Hb2 := Lib.hid hb2
      obtain ⟨c1, Hcc⟩ : ∃ b, Hid (b = (is1 && !q1)) := ⟨_, Lib.hid rfl⟩
      clear hK hq1 hb2
      go_upto_region 5 with fail
      go_cut [44] from 39 to 44 (fun c wx => c = .bool c1 ∧ wx = w2)
      case first =>
        cases is1
        · go_wp2
          go_meet
          exact ⟨by rw [Hcc.out]; rfl, rfl⟩
        · go_wp2_with fail
          (with_reducible refine HK.out.mono ?_)
          rintro e w5 ⟨rfl, hw⟩
          have hw' := hw.symm
          subst hw'
          clear hw
          cases q1
          · go_wp2
            go_meet
            exact ⟨by rw [Hcc.out]; rfl, rfl⟩
          · go_wp2
            go_meet
            exact ⟨by rw [Hcc.out]; rfl, rfl⟩
      case rest =>
      obtain ⟨rfl, hw⟩ := hcut
      have hw' := hw.symm
      subst hw'
      clear hw
      have hl2 : g < w2.heap.size := lt_of_getElem? hP2
      cases c1 with
      | true =>
        have HE : Hid (targetP how s = (unesc k1).map fun k => { opZero with bucket := n1, key := k, kind := kindK how }) := Lib.hid (by
          have hb := Hcc.out.symm
          simp only [Bool.and_eq_true, Bool.not_eq_true'] at hb
          rw [HT.out]
          simp only [← Hc1.out]
          rw [if_pos ⟨hb.1, by rw [Hq1.out]; exact hb.2⟩])
        have hX := textM_any k1 w2 (by omega)
        unfold TxtPost at hX
        cases hk : unesc k1 with
        | none =>
          rw [hk] at hX
          have HX := Lib.hid hX
          have HN : Hid (targetP how s = none) := Lib.hid (by rw [HE.out, hk]; rfl)
          clear hX hk
          go_wp2_with fail
          (with_reducible refine HX.out.mono ?_)
          rintro e w6 ⟨rfl, hg6⟩
          go_wp2
          refine ⟨rfl, ?_⟩
          rw [HN.out]
          exact ⟨rfl, GX.of (hg02.trans hg6)⟩
        | some k =>
          rw [hk] at hX
          have HX := Lib.hid hX
          have HS : Hid (targetP how s = some { opZero with bucket := n1, key := k, kind := kindK how }) := Lib.hid (by rw [HE.out, hk]; rfl)
          clear hX hk
          go_wp2_with fail
          (with_reducible refine HX.out.mono ?_)
          rintro e w6 ⟨rfl, hg6⟩
          have hP6 := (hg6.block g hl2).trans hP2
          have hc2 : w6.cell? ⟨g, 2, none⟩ = some (.string ⟨#[]⟩) := ck_cell hP6 rfl
          have hf2 : w6.frozen? ⟨g, 2, none⟩ = false := by simp [World.frozen?, hP6]
          have hP7 : (w6.setCell ⟨g, 2, none⟩ (.string ⟨n1.toArray⟩)).heap[g]? = some (.cells (opCells { opZero with bucket := n1 } (.slice none 0 0)) 73) := setCell_heap hP6 2 _
          have hc3 : (w6.setCell ⟨g, 2, none⟩ (.string ⟨n1.toArray⟩)).cell? ⟨g, 3, none⟩ = some (.string ⟨#[]⟩) := ck_cell hP7 rfl
          have hf3 : (w6.setCell ⟨g, 2, none⟩ (.string ⟨n1.toArray⟩)).frozen? ⟨g, 3, none⟩ = false := by simp [World.frozen?, hP7]
          have hP8 : ((w6.setCell ⟨g, 2, none⟩ (.string ⟨n1.toArray⟩)).setCell ⟨g, 3, none⟩ (.string ⟨k.toArray⟩)).heap[g]? = some (.cells (opCells { opZero with bucket := n1, key := k } (.slice none 0 0)) 73) := setCell_heap hP7 3 _
          have hg8x : GX g w ((w6.setCell ⟨g, 2, none⟩ (.string ⟨n1.toArray⟩)).setCell ⟨g, 3, none⟩ (.string ⟨k.toArray⟩)) := ((GX.of (hg02.trans hg6)).trans (GX.store w6 2 _)).trans (GX.store _ 3 _)
          go_upto_region 7 with fail
          generalize (w6.setCell ⟨g, 2, none⟩ (.string ⟨n1.toArray⟩)).setCell ⟨g, 3, none⟩ (.string ⟨k.toArray⟩) = W8 at *
          clear hc2 hf2 hP7 hc3 hf3
          have hl8 : g < W8.heap.size := lt_of_getElem? hP8
          have hmm := @run_makeMap Tryz.prog
          obtain ⟨m1, m2, m3, m4, r1, r2, r3, r4, r5, hgm⟩ := map_kinds W8 how (by omega)
          have hPm := (hgm.block g hl8).trans hP8
          have hc1 : m4.cell? ⟨g, 1, none⟩ = some (.int .i64 0) := ck_cell hPm rfl
          have hf1 : m4.frozen? ⟨g, 1, none⟩ = false := by simp [World.frozen?, hPm]
          have hP9 : (m4.setCell ⟨g, 1, none⟩ (.int .i64 (kindK how))).heap[g]? = some (.cells (opCells { opZero with bucket := n1, key := k, kind := kindK how } (.slice none 0 0)) 73) := setCell_heap hPm 1 _
          have hg9 : GX g w (m4.setCell ⟨g, 1, none⟩ (.int .i64 (kindK how))) := (hg8x.trans (GX.of hgm)).trans (GX.store m4 1 _)
          have Hend := Lib.hid (And.intro hP9 hg9)
          clear hP8 hP6 hg6 hg8x hgm hPm hP9 hg9 hP2 hg02 hg1 hg2
          go_wp2
          refine ⟨rfl, .tuple #[], by simp [results, Tryz.results81, go_sem], ?_⟩
          rw [HS.out]
          exact ⟨rfl, ⟨_, Hend.out.1, iv_nil _⟩, Hend.out.2⟩
      | false =>
        obtain ⟨⟨n2, rs, ok2⟩, Hc2⟩ : ∃ c, Hid (c = Lib.cut s1 [63, 112, 114, 101, 102, 105, 120, 61]) := ⟨_, Lib.hid rfl⟩
        have hlr : n2.length ≤ 100000 ∧ rs.length ≤ 100000 := by
          have := cut_lens s1 [63, 112, 114, 101, 102, 105, 120, 61]
          rw [← Hc2.out] at this
          exact ⟨Nat.le_trans this.1 hl1, Nat.le_trans this.2 hl1⟩
        have hC2 := cut3_any s1 [63, 112, 114, 101, 102, 105, 120, 61] Hb2.out (by omega)
        rw [← Hc2.out] at hC2
        have HC2 := Lib.hid hC2
        have HE : Hid (targetP how s = match (n2, rs, ok2) with
            | (name, rest, true) =>
              match Lib.cut rest (([38, 97, 102, 116, 101, 114, 61] : List UInt8)) with
              | (_, _, false) => none
              | (pre, rest, true) =>
                match Lib.cut rest (([38, 110, 61] : List UInt8)) with
                | (_, _, false) => none
                | (aft, n, true) => match unesc pre, unesc aft, numP n with
                  | some k, some a, some n => some { opZero with kind := 6, bucket := name, key := k, after := a, n := n }
                  | _, _, _ => none
            | (_, _, false) => some { opZero with bucket := s1, kind := kindB how }) := Lib.hid (by
          have hb := Hcc.out.symm
          rw [HT.out]
          simp only [← Hc1.out]
          rw [if_neg (fun h => by rw [h.1, ← Hq1.out, h.2] at hb; cases hb), ← Hc2.out])
        clear hC2
        go_wp2_with fail
        (with_reducible refine HC2.out.mono ?_)
        rintro e w6 ⟨rfl, hg6⟩
        have hP6 := (hg6.block g hl2).trans hP2
        have hg06 : Grow w w6 := hg02.trans hg6
        have hl6 : g < w6.heap.size := lt_of_getElem? hP6
        cases ok2 with
        | false =>
          have HS : Hid (targetP how s = some { opZero with bucket := s1, kind := kindB how }) := Lib.hid HE.out
          have hc2 : w6.cell? ⟨g, 2, none⟩ = some (.string ⟨#[]⟩) := ck_cell hP6 rfl
          have hf2 : w6.frozen? ⟨g, 2, none⟩ = false := by simp [World.frozen?, hP6]
          have hP8 : (w6.setCell ⟨g, 2, none⟩ (.string ⟨s1.toArray⟩)).heap[g]? = some (.cells (opCells { opZero with bucket := s1 } (.slice none 0 0)) 73) := setCell_heap hP6 2 _
          have hg8x : GX g w (w6.setCell ⟨g, 2, none⟩ (.string ⟨s1.toArray⟩)) := (GX.of hg06).trans (GX.store w6 2 _)
          go_upto_region 16 with fail
          generalize w6.setCell ⟨g, 2, none⟩ (.string ⟨s1.toArray⟩) = W8 at *
          clear hc2 hf2
          have hl8 : g < W8.heap.size := lt_of_getElem? hP8
          have hmm := @run_makeMap Tryz.prog
          obtain ⟨m1, m2, r1, r2, r5, hgm⟩ := map_kinds2 W8 how (by omega)
          have hPm := (hgm.block g hl8).trans hP8
          have hc1 : m2.cell? ⟨g, 1, none⟩ = some (.int .i64 0) := ck_cell hPm rfl
          have hf1 : m2.frozen? ⟨g, 1, none⟩ = false := by simp [World.frozen?, hPm]
          have hP9 : (m2.setCell ⟨g, 1, none⟩ (.int .i64 (kindB how))).heap[g]? = some (.cells (opCells { opZero with bucket := s1, kind := kindB how } (.slice none 0 0)) 73) := setCell_heap hPm 1 _
          have hg9 : GX g w (m2.setCell ⟨g, 1, none⟩ (.int .i64 (kindB how))) := (hg8x.trans (GX.of hgm)).trans (GX.store m2 1 _)
          have Hend := Lib.hid (And.intro hP9 hg9)
          clear hP8 hP6 hg6 hg8x hgm hPm hP9 hg9 hP2 hg02 hg1 hg2 hg06
          go_wp2
          refine ⟨rfl, .tuple #[], by simp [results, Tryz.results81, go_sem], ?_⟩
          rw [HS.out]
          exact ⟨rfl, ⟨_, Hend.out.1, iv_nil _⟩, Hend.out.2⟩
        | true =>
          obtain ⟨⟨pre, rs2, ok3⟩, Hc3⟩ : ∃ c, Hid (c = Lib.cut rs [38, 97, 102, 116, 101, 114, 61]) := ⟨_, Lib.hid rfl⟩
          have hlp : pre.length ≤ 100000 ∧ rs2.length ≤ 100000 := by
            have := cut_lens rs [38, 97, 102, 116, 101, 114, 61]
            rw [← Hc3.out] at this
            exact ⟨Nat.le_trans this.1 hlr.2, Nat.le_trans this.2 hlr.2⟩
          have hC3 := cutM_any rs [38, 97, 102, 116, 101, 114, 61] (Hb.out.grow hg06) (by omega)
          rw [← Hc3.out] at hC3
          unfold CutPost at hC3
          have HC3 := Lib.hid hC3
          clear hC3
          have HE3 : Hid (targetP how s = match (pre, rs2, ok3) with
              | (_, _, false) => none
              | (pre, rest, true) =>
                match Lib.cut rest (([38, 110, 61] : List UInt8)) with
                | (_, _, false) => none
                | (aft, n, true) => match unesc pre, unesc aft, numP n with
                  | some k, some a, some n => some { opZero with kind := 6, bucket := n2, key := k, after := a, n := n }
                  | _, _, _ => none) := Lib.hid (by rw [HE.out, Hc3.out])
          go_wp2_with fail
          (with_reducible refine HC3.out.mono ?_)
          rintro e w7 ⟨he, hg7⟩
          have hg07 : Grow w w7 := hg06.trans hg7
          cases ok3 with
          | false =>
            have he' : e = badE := he
            subst he'
            have HN : Hid (targetP how s = none) := Lib.hid HE3.out
            clear he
            go_wp2
            refine ⟨rfl, ?_⟩
            rw [HN.out]
            exact ⟨rfl, GX.of hg07⟩
          | true =>
            have he' : e = .returned (.tuple #[.string ⟨pre.toArray⟩, .string ⟨rs2.toArray⟩]) := he
            subst he'
            clear he HC3 Hc3
            obtain ⟨⟨aft, nn, ok4⟩, Hc4⟩ : ∃ c, Hid (c = Lib.cut rs2 [38, 110, 61]) := ⟨_, Lib.hid rfl⟩
            have hla : aft.length ≤ 100000 ∧ nn.length ≤ 100000 := by
              have := cut_lens rs2 [38, 110, 61]
              rw [← Hc4.out] at this
              exact ⟨Nat.le_trans this.1 hlp.2, Nat.le_trans this.2 hlp.2⟩
            have hC4 := cutM_any rs2 [38, 110, 61] (Hb.out.grow hg07) (by omega)
            rw [← Hc4.out] at hC4
            unfold CutPost at hC4
            have HC4 := Lib.hid hC4
            clear hC4
            have HE4 : Hid (targetP how s = match (aft, nn, ok4) with
                | (_, _, false) => none
                | (aft, n, true) => match unesc pre, unesc aft, numP n with
                  | some k, some a, some n => some { opZero with kind := 6, bucket := n2, key := k, after := a, n := n }
                  | _, _, _ => none) := Lib.hid (by rw [HE3.out, Hc4.out])
            go_wp2_with fail
            (with_reducible refine HC4.out.mono ?_)
            rintro e w8 ⟨he, hg8'⟩
            have hg08 : Grow w w8 := hg07.trans hg8'
            cases ok4 with
            | false =>
              have he' : e = badE := he
              subst he'
              have HN : Hid (targetP how s = none) := Lib.hid HE4.out
              clear he
              go_wp2
              refine ⟨rfl, ?_⟩
              rw [HN.out]
              exact ⟨rfl, GX.of hg08⟩
            | true =>
              have he' : e = .returned (.tuple #[.string ⟨aft.toArray⟩, .string ⟨nn.toArray⟩]) := he
              subst he'
              clear he HC4 Hc4
              have HE5 : Hid (targetP how s = match unesc pre, unesc aft, numP nn with
                  | some k, some a, some n => some { opZero with kind := 6, bucket := n2, key := k, after := a, n := n }
                  | _, _, _ => none) := Lib.hid HE4.out
              have hX1 := textM_any pre w8 (by omega)
              unfold TxtPost at hX1
              cases hk1 : unesc pre with
              | none =>
                rw [hk1] at hX1
                have HX1 := Lib.hid hX1
                have HN : Hid (targetP how s = none) := Lib.hid (by rw [HE5.out, hk1])
                clear hX1 hk1
                go_wp2_with fail
                (with_reducible refine HX1.out.mono ?_)
                rintro e w9 ⟨rfl, hg9⟩
                go_wp2
                refine ⟨rfl, ?_⟩
                rw [HN.out]
                exact ⟨rfl, GX.of (hg08.trans hg9)⟩
              | some kk =>
                rw [hk1] at hX1
                have HX1 := Lib.hid hX1
                have HE6 : Hid (targetP how s = match unesc aft, numP nn with
                    | some a, some n => some { opZero with kind := 6, bucket := n2, key := kk, after := a, n := n }
                    | _, _ => none) := Lib.hid (by
                  rw [HE5.out, hk1]
                  cases unesc aft <;> cases numP nn <;> rfl)
                clear hX1 hk1
                go_wp2_with fail
                (with_reducible refine HX1.out.mono ?_)
                rintro e w9 ⟨rfl, hg9⟩
                have hg09 : Grow w w9 := hg08.trans hg9
                have hX2 := textM_any aft w9 (by omega)
                unfold TxtPost at hX2
                cases hk2 : unesc aft with
                | none =>
                  rw [hk2] at hX2
                  have HX2 := Lib.hid hX2
                  have HN : Hid (targetP how s = none) := Lib.hid (by rw [HE6.out, hk2])
                  clear hX2 hk2
                  go_wp2_with fail
                  (with_reducible refine HX2.out.mono ?_)
                  rintro e wa ⟨rfl, hga⟩
                  go_wp2
                  refine ⟨rfl, ?_⟩
                  rw [HN.out]
                  exact ⟨rfl, GX.of (hg09.trans hga)⟩
                | some aa =>
                  rw [hk2] at hX2
                  have HX2 := Lib.hid hX2
                  have HE7 : Hid (targetP how s = (numP nn).map fun n => { opZero with kind := 6, bucket := n2, key := kk, after := aa, n := n }) := Lib.hid (by
                    rw [HE6.out, hk2]
                    cases numP nn <;> rfl)
                  clear hX2 hk2
                  go_wp2_with fail
                  (with_reducible refine HX2.out.mono ?_)
                  rintro e wa ⟨rfl, hga⟩
                  have hg0a : Grow w wa := hg09.trans hga
                  have hPa : wa.heap[g]? = some (.cells (opCells opZero (.slice none 0 0)) 73) := (hg0a.block g hlw).trans HP.out
                  have a1 : wa.cell? ⟨g, 1, none⟩ = some (.int .i64 0) := ck_cell hPa rfl
                  have b1 : wa.frozen? ⟨g, 1, none⟩ = false := by simp [World.frozen?, hPa]
                  have hPb : (wa.setCell ⟨g, 1, none⟩ (.int .i64 6)).heap[g]? = some (.cells (opCells { opZero with kind := 6 } (.slice none 0 0)) 73) := setCell_heap hPa 1 _
                  have hgb : GX g w (wa.setCell ⟨g, 1, none⟩ (.int .i64 6)) := (GX.of hg0a).trans (GX.store wa 1 _)
                  have a2 : (wa.setCell ⟨g, 1, none⟩ (.int .i64 6)).cell? ⟨g, 2, none⟩ = some (.string ⟨#[]⟩) := ck_cell hPb rfl
                  have b2 : (wa.setCell ⟨g, 1, none⟩ (.int .i64 6)).frozen? ⟨g, 2, none⟩ = false := by simp [World.frozen?, hPb]
                  have hPc : ((wa.setCell ⟨g, 1, none⟩ (.int .i64 6)).setCell ⟨g, 2, none⟩ (.string ⟨n2.toArray⟩)).heap[g]? = some (.cells (opCells { opZero with kind := 6, bucket := n2 } (.slice none 0 0)) 73) := setCell_heap hPb 2 _
                  have hgc := hgb.trans (GX.store (g := g) (wa.setCell ⟨g, 1, none⟩ (.int .i64 6)) 2 (.string ⟨n2.toArray⟩))
                  have a3 : ((wa.setCell ⟨g, 1, none⟩ (.int .i64 6)).setCell ⟨g, 2, none⟩ (.string ⟨n2.toArray⟩)).cell? ⟨g, 3, none⟩ = some (.string ⟨#[]⟩) := ck_cell hPc rfl
                  have b3 : ((wa.setCell ⟨g, 1, none⟩ (.int .i64 6)).setCell ⟨g, 2, none⟩ (.string ⟨n2.toArray⟩)).frozen? ⟨g, 3, none⟩ = false := by simp [World.frozen?, hPc]
                  have hPd : (((wa.setCell ⟨g, 1, none⟩ (.int .i64 6)).setCell ⟨g, 2, none⟩ (.string ⟨n2.toArray⟩)).setCell ⟨g, 3, none⟩ (.string ⟨kk.toArray⟩)).heap[g]? = some (.cells (opCells { opZero with kind := 6, bucket := n2, key := kk } (.slice none 0 0)) 73) := setCell_heap hPc 3 _
                  have hgd := hgc.trans (GX.store (g := g) ((wa.setCell ⟨g, 1, none⟩ (.int .i64 6)).setCell ⟨g, 2, none⟩ (.string ⟨n2.toArray⟩)) 3 (.string ⟨kk.toArray⟩))
                  have a4 : (((wa.setCell ⟨g, 1, none⟩ (.int .i64 6)).setCell ⟨g, 2, none⟩ (.string ⟨n2.toArray⟩)).setCell ⟨g, 3, none⟩ (.string ⟨kk.toArray⟩)).cell? ⟨g, 4, none⟩ = some (.string ⟨#[]⟩) := ck_cell hPd rfl
                  have b4 : (((wa.setCell ⟨g, 1, none⟩ (.int .i64 6)).setCell ⟨g, 2, none⟩ (.string ⟨n2.toArray⟩)).setCell ⟨g, 3, none⟩ (.string ⟨kk.toArray⟩)).frozen? ⟨g, 4, none⟩ = false := by simp [World.frozen?, hPd]
                  have hPe : ((((wa.setCell ⟨g, 1, none⟩ (.int .i64 6)).setCell ⟨g, 2, none⟩ (.string ⟨n2.toArray⟩)).setCell ⟨g, 3, none⟩ (.string ⟨kk.toArray⟩)).setCell ⟨g, 4, none⟩ (.string ⟨aa.toArray⟩)).heap[g]? = some (.cells (opCells { opZero with kind := 6, bucket := n2, key := kk, after := aa } (.slice none 0 0)) 73) := setCell_heap hPd 4 _
                  have hge := hgd.trans (GX.store (g := g) (((wa.setCell ⟨g, 1, none⟩ (.int .i64 6)).setCell ⟨g, 2, none⟩ (.string ⟨n2.toArray⟩)).setCell ⟨g, 3, none⟩ (.string ⟨kk.toArray⟩)) 4 (.string ⟨aa.toArray⟩))
                  go_upto_region 13 with fail
                  generalize (((wa.setCell ⟨g, 1, none⟩ (.int .i64 6)).setCell ⟨g, 2, none⟩ (.string ⟨n2.toArray⟩)).setCell ⟨g, 3, none⟩ (.string ⟨kk.toArray⟩)).setCell ⟨g, 4, none⟩ (.string ⟨aa.toArray⟩) = We at *
                  clear a1 b1 a2 b2 a3 b3 a4 b4 hPb hPc hPd hgb hgc hgd
                  have hle : g < We.heap.size := lt_of_getElem? hPe
                  have hN := number_any ⟨nn.toArray⟩ (Hb.out.gx hg8 hge) (by show nn.toArray.size ≤ _; simp; omega)
                  have hid1 : NumPost (⟨nn.toArray⟩ : ByteArray).data.toList = NumPost nn := rfl
                  rw [hid1] at hN
                  clear hid1
                  cases hn : numP nn with
                  | none =>
                    have HN0 : Hid (targetP how s = none) := Lib.hid (by rw [HE7.out, hn]; rfl)
                    have HN := Lib.hid hN
                    have Hn := Lib.hid hn
                    clear hN hn
                    go_wp2_with fail
                    (with_reducible refine HN.out.mono ?_)
                    rintro e wf ⟨he, hgf⟩
                    unfold NumPost at he
                    rw [Hn.out] at he
                    obtain ⟨n, rfl⟩ := he
                    have hPf := (hgf.block g hle).trans hPe
                    have a5 : wf.cell? ⟨g, 5, none⟩ = some (.int .i64 0) := ck_cell hPf rfl
                    have b5 : wf.frozen? ⟨g, 5, none⟩ = false := by simp [World.frozen?, hPf]
                    have hgg : GX g w (wf.setCell ⟨g, 5, none⟩ (.int .i64 n)) := (hge.trans (GX.of hgf)).trans (GX.store wf 5 _)
                    go_upto_region 14 with fail
                    generalize wf.setCell ⟨g, 5, none⟩ (.int .i64 n) = Wg at *
                    clear a5 b5 hPf
                    go_wp2_with fail
                    (with_reducible refine (HB _).mono ?_)
                    rintro e wh ⟨rfl, hw⟩
                    have hw' := hw.symm
                    subst hw'
                    clear hw
                    go_wp2
                    refine ⟨rfl, ?_⟩
                    rw [HN0.out]
                    exact ⟨rfl, hgg⟩
                  | some n =>
                    have HS : Hid (targetP how s = some { opZero with kind := 6, bucket := n2, key := kk, after := aa, n := n }) := Lib.hid (by rw [HE7.out, hn]; rfl)
                    have HN := Lib.hid hN
                    have Hn := Lib.hid hn
                    clear hN hn
                    go_wp2_with fail
                    (with_reducible refine HN.out.mono ?_)
                    rintro e wf ⟨he, hgf⟩
                    unfold NumPost at he
                    rw [Hn.out] at he
                    subst he
                    have hPf := (hgf.block g hle).trans hPe
                    have a5 : wf.cell? ⟨g, 5, none⟩ = some (.int .i64 0) := ck_cell hPf rfl
                    have b5 : wf.frozen? ⟨g, 5, none⟩ = false := by simp [World.frozen?, hPf]
                    have hgg : GX g w (wf.setCell ⟨g, 5, none⟩ (.int .i64 n)) := (hge.trans (GX.of hgf)).trans (GX.store wf 5 _)
                    have hPg : (wf.setCell ⟨g, 5, none⟩ (.int .i64 n)).heap[g]? = some (.cells (opCells { opZero with kind := 6, bucket := n2, key := kk, after := aa, n := n } (.slice none 0 0)) 73) := setCell_heap hPf 5 _
                    go_upto_region 14 with fail
                    generalize wf.setCell ⟨g, 5, none⟩ (.int .i64 n) = Wg at *
                    clear a5 b5 hPf
                    go_wp2_with fail
                    (with_reducible refine (HM _).mono ?_)
                    rintro e wh ⟨rfl, hw⟩
                    have hw' := hw.symm
                    subst hw'
                    clear hw
                    go_wp2
                    refine ⟨rfl, .tuple #[], by simp [results, Tryz.results81, go_sem], ?_⟩
                    rw [HS.out]
                    exact ⟨rfl, ⟨_, hPg, iv_nil _⟩, hgg⟩
end Go.Proofs.YtdegmpimcappjaaGreatDoor

/- The document's 'until'. -/
namespace Go.Proofs.YtdegmpimcappjaaGreatDoor
open Go.RowKit Go.Gl Go.Front

theorem ext_mid (s : List UInt8) (i m : Nat) : (⟨s.toArray⟩ : ByteArray).extract i (i + m) = ⟨((s.drop i).take m).toArray⟩ := by
  apply ByteArray.ext
  simp

theorem occ_mid {s x : List UInt8} {i : Nat} : ((s.drop i).take x.length == x) = Lib.occAt s x i := by
  unfold Lib.occAt
  rw [Bool.eq_iff_iff, beq_iff_eq, List.isPrefixOf_iff_prefix, List.prefix_iff_eq_take]
  exact eq_comm

def UntInv (w : World) (s x : List UInt8) (iv : Value) (wr : World) : Prop := ∃ i : Nat, iv = .int .i64 i ∧ i ≤ s.length + 1 ∧ (∀ j, j < i → Lib.occAt s x j = false) ∧ Grow w wr

def untV (o : Option (List UInt8 × List UInt8)) : Value := match o with
  | some (a, b) => .tuple #[.string ⟨a.toArray⟩, .string ⟨b.toArray⟩, .bool true]
  | none => .tuple #[.string ⟨#[]⟩, .string ⟨#[]⟩, .bool false]

set_option maxRecDepth 100000 in
theorem until_any (s x : List UInt8) (w : World) (hs : s.length ≤ 1000000) (hx : x.length ≤ 1000) : Calls Tryz.prog 85 #[.string ⟨s.toArray⟩, .string ⟨x.toArray⟩] w fun e w' => e = .returned (untV (untilR s x)) ∧ Grow w w' := by
  have hsz : (⟨s.toArray⟩ : ByteArray).size = s.length := by simp [ByteArray.size]
  have hxz : (⟨x.toArray⟩ : ByteArray).size = x.length := by simp [ByteArray.size]
  go_enter Tryz.func85, Tryz.ntmps85
  go_wp2_with fail
  go_loopw [7] (fun iv wr => UntInv w s x iv wr) (fun iv _ => s.length + 1 - (intOf iv).toNat)
  case atStart => exact ⟨0, rfl, Nat.zero_le _, fun j h => absurd h (Nat.not_lt_zero _), Grow.refl _⟩
  case round =>
    obtain ⟨i, rfl, hi, hno, hg⟩ := hrel
    have hw1 : IntKind.i64.wrap ((i : Int) + (x.length : Int)) = (i : Int) + (x.length : Int) := IntWalk.i64_in _ (by omega)
    have hw2 : IntKind.i64.wrap ((i : Int) + 1) = (i : Int) + 1 := IntWalk.i64_in _ (by omega)
    have Hno := Lib.hid hno
    have Hg := Lib.hid hg
    clear hno hg
    by_cases hr : i + x.length ≤ s.length
    · have hle : (i : Int) + (x.length : Int) ≤ (s.length : Int) := by omega
      have h0 : (0 : Int) ≤ (i : Int) := by omega
      have e1 := ext_mid s i x.length
      obtain ⟨b, hb⟩ : ∃ b, ((s.drop i).take x.length == x) = b := ⟨_, rfl⟩
      have Hb : Hid (Lib.occAt s x i = b) := Lib.hid (by rw [← occ_mid]; exact hb)
      have e2 : (⟨s.toArray⟩ : ByteArray).extract 0 i = ⟨(s.take i).toArray⟩ := by
        apply ByteArray.ext
        simp
      have e3 : (⟨s.toArray⟩ : ByteArray).extract (i + x.length) s.length = ⟨(s.drop (i + x.length)).toArray⟩ := by
        apply ByteArray.ext
        simp
        exact List.take_of_length_le (by simp)
      have hil : i ≤ s.length := by omega
      have hil2 : (i : Int) ≤ (s.length : Int) := by omega
      cases b with
      | true =>
        have HR : Hid (untilR s x = some (s.take i, s.drop (i + x.length))) := Lib.hid (by
          have h := Lib.index_first hil Hb.out Hno.out
          unfold untilR Lib.cut
          rw [h, if_pos (by omega)]
          simp)
        go_wp2_with (go_quiet (fail))
        try go_wp2
        exact bodyPost_ret (v := .tuple #[.string ⟨(s.take i).toArray⟩, .string ⟨(s.drop (i + x.length)).toArray⟩, .bool true]) (by simp [results, Tryz.results85, go_sem, e3]) rfl ⟨by rw [HR.out]; rfl, Hg.out.trans (by (repeat (first | exact Below.refl _ _ | assumption | refine Below.drew ?_ | refine bDrewN ?_ | refine Below.setCell ?_ (by first | omega | (simp <;> omega)) _ | refine Below.alloc ?_ (by first | omega | (simp <;> omega)) _)))⟩
      | false =>
        have Hrel : Hid (∀ W, Grow wr W → UntInv w s x (.int .i64 ((i : Int) + 1)) W) := Lib.hid (fun W hW => ⟨i + 1, by simp, by omega, fun j hj => by
          rcases Nat.lt_succ_iff_lt_or_eq.1 hj with h | h
          · exact Hno.out j h
          · rw [h]; exact Hb.out, Hg.out.trans hW⟩)
        go_wp2
        go_roundw
        case rel => exact Hrel.out _ (by (repeat (first | exact Below.refl _ _ | assumption | refine Below.drew ?_ | refine bDrewN ?_ | refine Below.setCell ?_ (by first | omega | (simp <;> omega)) _ | refine Below.alloc ?_ (by first | omega | (simp <;> omega)) _)))
        case measure => simp [intOf]; omega
    · have hle : ¬ ((i : Int) + (x.length : Int) ≤ (s.length : Int)) := by omega
      have HR : Hid (untilR s x = none) := Lib.hid (by
        have h := Lib.index_none (s := s) (sub := x) (fun j hj => by
          by_cases hji : j < i
          · exact Hno.out j hji
          · cases ho : Lib.occAt s x j with
            | false => rfl
            | true =>
              unfold Lib.occAt at ho
              have := (List.isPrefixOf_iff_prefix.1 ho).length_le
              rw [List.length_drop] at this
              omega)
        unfold untilR Lib.cut
        rw [h]
        rfl)
      go_wp2
      exact bodyPost_ret (v := .tuple #[.string ⟨#[]⟩, .string ⟨#[]⟩, .bool false]) (by simp [results, Tryz.results85, go_sem]) rfl ⟨by rw [HR.out]; rfl, Hg.out⟩
end Go.Proofs.YtdegmpimcappjaaGreatDoor

/- The document's 'ends'. -/
namespace Go.Proofs.YtdegmpimcappjaaGreatDoor
open Go.RowKit Go.Gl Go.Front

def endsV (l : List UInt8) : Int := if Lib.index l crlf2 = -1 then -1 else Lib.index l crlf2 + 4

theorem occ4 {l : List UInt8} {i : Nat} (h : i + 4 ≤ l.length) : Lib.occAt l crlf2 i = (l[i]'(by omega) == 13 && l[i+1]'(by omega) == 10 && l[i+2]'(by omega) == 13 && l[i+3]'(by omega) == 10) := by
  have e : (l.drop i).take 4 = [l[i]'(by omega), l[i+1]'(by omega), l[i+2]'(by omega), l[i+3]'(by omega)] := by
    apply List.ext_getElem
    · simp; omega
    · intro k h1 h2
      simp at h2
      match k, h2 with
      | 0, _ => simp
      | 1, _ => simp
      | 2, _ => simp
      | 3, _ => simp
  rw [← occ_mid]
  show ((l.drop i).take 4 == crlf2) = _
  rw [e]
  simp [crlf2, Bool.and_assoc]

def EndInv (w : World) (l : List UInt8) (iv : Value) (wr : World) : Prop := ∃ i : Nat, iv = .int .i64 i ∧ i ≤ l.length + 1 ∧ (∀ j, j < i → Lib.occAt l crlf2 j = false) ∧ wr = w

set_option maxRecDepth 100000 in
theorem ends_any {w : World} {v : Value} {l : List UInt8} (h : Bv w v l) (hs : l.length ≤ 1000000000000) : Calls Tryz.prog 51 #[v] w fun e w' => e = .returned (.int .i64 (endsV l)) ∧ w' = w := by
  obtain ⟨a, c, rfl, _, _, _, hc⟩ := h
  have Hc := Lib.hid hc
  clear hc
  go_enter Tryz.func51, Tryz.ntmps51
  go_wp2_with fail
  go_loopw [3] (fun iv wr => EndInv w l iv wr) (fun iv _ => l.length + 1 - (intOf iv).toNat)
  case atStart => exact ⟨0, rfl, Nat.zero_le _, fun j h => absurd h (Nat.not_lt_zero _), rfl⟩
  case round =>
    obtain ⟨i, rfl, hi, hno, hw⟩ := hrel
    subst hw
    have hwi : IntKind.i64.wrap ((i : Int) + 1) = (i : Int) + 1 := IntWalk.i64_in _ (by omega)
    have hw2 : IntKind.i64.wrap ((i : Int) + 2) = (i : Int) + 2 := IntWalk.i64_in _ (by omega)
    have hw3 : IntKind.i64.wrap ((i : Int) + 3) = (i : Int) + 3 := IntWalk.i64_in _ (by omega)
    have hw4 : IntKind.i64.wrap ((i : Int) + 4) = (i : Int) + 4 := IntWalk.i64_in _ (by omega)
    have Hno := Lib.hid hno
    clear hno
    by_cases hr : i + 4 ≤ l.length
    · have hle : (i : Int) + 4 ≤ (l.length : Int) := by omega
      have l0 : (i : Int) < (l.length : Int) := by omega
      have l1 : (i : Int) + 1 < (l.length : Int) := by omega
      have l2 : (i : Int) + 2 < (l.length : Int) := by omega
      have l3 : (i : Int) + 3 < (l.length : Int) := by omega
      have g0 : (0 : Int) ≤ (i : Int) := by omega
      have g1 : (0 : Int) ≤ (i : Int) + 1 := by omega
      have g2 : (0 : Int) ≤ (i : Int) + 2 := by omega
      have g3 : (0 : Int) ≤ (i : Int) + 3 := by omega
      obtain ⟨b, o, rfl, hbs, hcell⟩ := Hc.out.resolve_left (fun e => by rw [e] at hr; simp at hr)
      have c0 := hcell i (l[i]'(by omega)) (by simp)
      have c1 : wr.cell? ⟨b, o + (i + 1), none⟩ = some (.int .u8 (l[i+1]'(by omega)).toNat) := hcell (i + 1) _ (by simp)
      have c2 : wr.cell? ⟨b, o + (i + 2), none⟩ = some (.int .u8 (l[i+2]'(by omega)).toNat) := hcell (i + 2) _ (by simp)
      have c3 : wr.cell? ⟨b, o + (i + 3), none⟩ = some (.int .u8 (l[i+3]'(by omega)).toNat) := hcell (i + 3) _ (by simp)
      have Ho := Lib.hid (occ4 hr)
      have t1 : ((i : Int) + 1).toNat = i + 1 := by omega
      have t2 : ((i : Int) + 2).toNat = i + 2 := by omega
      have t3 : ((i : Int) + 3).toNat = i + 3 := by omega
      generalize l[i]'(by omega) = x0 at *
      generalize l[i+1]'(by omega) = x1 at *
      generalize l[i+2]'(by omega) = x2 at *
      generalize l[i+3]'(by omega) = x3 at *
      have nb : ∀ (x : UInt8) (k : Nat), k < 256 → ((x.toNat : Int) == (k : Int)) = (x == UInt8.ofNat k) := fun x k hk => by
        rw [Bool.eq_iff_iff, beq_iff_eq, beq_iff_eq]
        constructor
        · intro e
          apply UInt8.toNat_inj.1
          rw [UInt8.toNat_ofNat_of_lt' hk]
          omega
        · intro e
          rw [e, UInt8.toNat_ofNat_of_lt' hk]
      obtain ⟨p0, h0⟩ : ∃ p, ((x0.toNat : Int) == 13) = p := ⟨_, rfl⟩
      obtain ⟨p1, h1⟩ : ∃ p, ((x1.toNat : Int) == 10) = p := ⟨_, rfl⟩
      obtain ⟨p2, h2⟩ : ∃ p, ((x2.toNat : Int) == 13) = p := ⟨_, rfl⟩
      obtain ⟨p3, h3⟩ : ∃ p, ((x3.toNat : Int) == 10) = p := ⟨_, rfl⟩
      have HO : Hid (Lib.occAt l crlf2 i = (p0 && p1 && p2 && p3)) := Lib.hid (by
        have a0 := nb x0 13 (by decide)
        have a1 := nb x1 10 (by decide)
        have a2 := nb x2 13 (by decide)
        have a3 := nb x3 10 (by decide)
        rw [Ho.out, ← h0, ← h1, ← h2, ← h3]
        exact (congr (congrArg _ (congr (congrArg _ (congr (congrArg _ a0) a1)) a2)) a3).symm)
      have Hrel : Hid (Lib.occAt l crlf2 i = false → EndInv wr l (.int .i64 ((i : Int) + 1)) wr) := Lib.hid (fun hf => ⟨i + 1, by simp, by omega, fun j hj => by
        rcases Nat.lt_succ_iff_lt_or_eq.1 hj with h | h
        · exact Hno.out j h
        · rw [h]; exact hf, rfl⟩)
      have HR : Hid (Lib.occAt l crlf2 i = true → endsV l = (i : Int) + 4) := Lib.hid (fun ht => by
        have h := Lib.index_first (by omega) ht Hno.out
        unfold endsV
        rw [h, if_neg (by omega)])
      clear nb t1 t2 t3
      cases p0
      · go_wp2
        go_roundw
        case rel => exact Hrel.out HO.out
        case measure => simp [intOf]; omega
      · cases p1
        · go_wp2
          go_roundw
          case rel => exact Hrel.out HO.out
          case measure => simp [intOf]; omega
        · cases p2
          · go_wp2
            go_roundw
            case rel => exact Hrel.out HO.out
            case measure => simp [intOf]; omega
          · cases p3
            · go_wp2
              go_roundw
              case rel => exact Hrel.out HO.out
              case measure => simp [intOf]; omega
            · go_wp2
              go_ret
              exact ⟨by rw [HR.out HO.out]; rfl, rfl⟩
    · have hle : ¬ ((i : Int) + 4 ≤ (l.length : Int)) := by omega
      have HR : Hid (endsV l = -1) := Lib.hid (by
        have h := Lib.index_none (s := l) (sub := crlf2) (fun j hj => by
          by_cases hji : j < i
          · exact Hno.out j hji
          · cases ho : Lib.occAt l crlf2 j with
            | false => rfl
            | true =>
              unfold Lib.occAt at ho
              have := (List.isPrefixOf_iff_prefix.1 ho).length_le
              rw [List.length_drop] at this
              simp [crlf2] at this
              omega)
        unfold endsV
        rw [h]
        rfl)
      go_wp2
      go_ret
      exact ⟨by rw [HR.out]; rfl, rfl⟩
end Go.Proofs.YtdegmpimcappjaaGreatDoor

/- slices.Clip. -/
namespace Go.Proofs.YtdegmpimcappjaaGreatDoor
open Go.RowKit Go.Gl Go.Front

theorem clip_any {w : World} {v : Value} {l : List UInt8} (h : Bv w v l) : Calls Tryz.prog 57 #[v] w fun e w' => (∃ v', e = .returned v' ∧ Bv w v' l) ∧ w' = w := by
  obtain ⟨a, c, rfl, h1, h2, h3, h4⟩ := h
  have hl : (l.length : Int) ≤ (c : Int) := by omega
  have H : Hid (Bv w (.slice a l.length l.length) l) := Lib.hid ⟨a, l.length, rfl, Nat.le_refl _, by omega, fun e => by have := h3 e; omega, h4⟩
  cases a with
  | none =>
    have e := h3 rfl
    have hl0 : l = [] := List.eq_nil_of_length_eq_zero (by omega)
    subst hl0
    subst e
    clear h1 h2 h3 h4 hl
    go_enter Tryz.func57, Tryz.ntmps57
    go_wp2
    go_ret
    exact ⟨⟨_, rfl, H.out⟩, rfl⟩
  | some a =>
    clear h2 h3 h4
    go_enter Tryz.func57, Tryz.ntmps57
    go_wp2
    go_ret
    exact ⟨⟨_, rfl, H.out⟩, rfl⟩
end Go.Proofs.YtdegmpimcappjaaGreatDoor

/- bytes.Equal. -/
namespace Go.Proofs.YtdegmpimcappjaaGreatDoor
open Go.RowKit Go.Gl Go.Front

theorem conv_text {w : World} {v : Value} {l : List UInt8} (h : Bv w v l) : (convert 24 9 v).run Tryz.prog w = .ok (.string ⟨l.toArray⟩) w := by
  by_cases h0 : l = []
  · subst h0
    obtain ⟨a, c, rfl, _⟩ := h
    rw [List.length_nil, run_convert_bytes_string w 24 9 5 a 0 c Tryz.underlying24 Tryz.underlying5 Tryz.underlying9]
    cases a <;> simp [Conv.bytesToString, loadCells, loadCellsFrom] <;> rfl
  · exact run_string Tryz.underlying24 Tryz.underlying5 Tryz.underlying9 (h.bytes h0)

theorem equal_any {w : World} {v u : Value} {a b : List UInt8} (h : Bv w v a) (k : Bv w u b) : Calls Tryz.prog 50 #[v, u] w fun e w' => e = .returned (.bool (a == b)) ∧ w' = w := by
  have c1 := conv_text h
  have c2 := conv_text k
  clear h k
  go_enter Tryz.func50, Tryz.ntmps50
  go_wp2
  go_ret
  exact ⟨by simp, rfl⟩
end Go.Proofs.YtdegmpimcappjaaGreatDoor
