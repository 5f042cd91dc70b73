/- Merged out of YS: helpers. -/
import Derived.Test.YtdegmpimcappjaaGreatDoorFE
import Derived.Test.YtdegmpimcappjaaGreatDoorFYI
/- The document's first line of a request. -/
namespace Go.Proofs.YtdegmpimcappjaaGreatDoor
open Go.RowKit Go.Gl Go.Front

set_option maxRecDepth 100000 in
set_option maxHeartbeats 4000000 in
theorem line_1 {w : World} {id u : Nat} {n : Int} {B K A : List UInt8} {pv dv : Value} (hu : u < 18446744073709551616) (hB : B.length ≤ 100000) (hK : K.length ≤ 100000) :
    Calls Tryz.prog 74 #[.agg #[.int .u64 id, .int .i64 1, .string ⟨B.toArray⟩, .string ⟨K.toArray⟩, .string ⟨A.toArray⟩, .int .i64 n, .int .u64 u, pv, dv]] w fun e w' => e = .returned (.string ⟨(([80, 85, 84, 32] : List UInt8) ++ (47 :: B)).toArray⟩) ∧ Grow w w' := by
  have HE : Hid (∀ W, Calls Tryz.prog 16 #[.string ⟨K.toArray⟩] W fun e w' => e = .returned (.string ⟨(esc K).toArray⟩) ∧ Grow W w') := Lib.hid (fun W => escapeR_any ⟨K.toArray⟩ W (by show K.toArray.size ≤ _; simp; omega))
  have HEl := esc_len K
  have HX : Hid (∀ W, Calls Tryz.prog 58 #[.int .u64 u] W fun e w' => e = .returned (.string ⟨(hex16 u).toArray⟩) ∧ Grow W w') := Lib.hid (fun W => hex_any u hu W)
  have hX : (hex16 u).length = 16 := hexF_len 16 u
  obtain ⟨S1, HS1⟩ : ∃ S : List UInt8, Hid (S = ([47] : List UInt8) ++ (B)) := ⟨_, Lib.hid rfl⟩
  have e1 : (⟨#[47]⟩ : ByteArray) ++ ⟨(B).toArray⟩ = ⟨S1.toArray⟩ := by rw [HS1.out]; exact ba_append ([47] : List UInt8) (B)
  have z1 : ¬ (9223372036854775807 < 1 + (B).length) := by omega
  have y1 : S1.length ≤ 100001 := by rw [HS1.out, List.length_append]; (try simp only [List.length_cons, List.length_nil]); omega
  obtain ⟨S2, HS2⟩ : ∃ S : List UInt8, Hid (S = (S1) ++ ([47] : List UInt8)) := ⟨_, Lib.hid rfl⟩
  have e2 : (⟨(S1).toArray⟩ : ByteArray) ++ ⟨#[47]⟩ = ⟨S2.toArray⟩ := by rw [HS2.out]; exact ba_append (S1) ([47] : List UInt8)
  have z2 : ¬ (9223372036854775807 < (S1).length + 1) := by omega
  have y2 : S2.length ≤ 100002 := by rw [HS2.out, List.length_append]; (try simp only [List.length_cons, List.length_nil]); omega
  obtain ⟨S3, HS3⟩ : ∃ S : List UInt8, Hid (S = (S2) ++ (esc K)) := ⟨_, Lib.hid rfl⟩
  have e3 : (⟨(S2).toArray⟩ : ByteArray) ++ ⟨(esc K).toArray⟩ = ⟨S3.toArray⟩ := by rw [HS3.out]; exact ba_append (S2) (esc K)
  have z3 : ¬ (9223372036854775807 < (S2).length + (esc K).length) := by omega
  have y3 : S3.length ≤ 400100 := by rw [HS3.out, List.length_append]; (try simp only [List.length_cons, List.length_nil]); omega
  obtain ⟨S4, HS4⟩ : ∃ S : List UInt8, Hid (S = ([47, 63, 117, 112, 108, 111, 97, 100, 61] : List UInt8) ++ (hex16 u)) := ⟨_, Lib.hid rfl⟩
  have e4 : (⟨#[47, 63, 117, 112, 108, 111, 97, 100, 61]⟩ : ByteArray) ++ ⟨(hex16 u).toArray⟩ = ⟨S4.toArray⟩ := by rw [HS4.out]; exact ba_append ([47, 63, 117, 112, 108, 111, 97, 100, 61] : List UInt8) (hex16 u)
  have z4 : ¬ (9223372036854775807 < 9 + (hex16 u).length) := by omega
  have y4 : S4.length ≤ 25 := by rw [HS4.out, List.length_append]; (try simp only [List.length_cons, List.length_nil]); omega
  obtain ⟨S5, HS5⟩ : ∃ S : List UInt8, Hid (S = ([80, 85, 84, 32] : List UInt8) ++ (S1)) := ⟨_, Lib.hid rfl⟩
  have e5 : (⟨#[80, 85, 84, 32]⟩ : ByteArray) ++ ⟨(S1).toArray⟩ = ⟨S5.toArray⟩ := by rw [HS5.out]; exact ba_append ([80, 85, 84, 32] : List UInt8) (S1)
  have z5 : ¬ (9223372036854775807 < 4 + (S1).length) := by omega
  have y5 : S5.length ≤ 500000 := by rw [HS5.out, List.length_append]; (try simp only [List.length_cons, List.length_nil]); omega
  have Hc : Hid (S5 = ([80, 85, 84, 32] : List UInt8) ++ (47 :: B)) := Lib.hid (by rw [HS5.out, HS1.out]; (try simp only [List.cons_append, List.nil_append]))
  clear HEl hX y1 y2 y3 y4 y5
  go_enter Tryz.func74, Tryz.ntmps74
  go_upto_region 1 with fail
  have hbk := heap_alloc_new w (.cells #[.int .u64 id, .int .i64 1, .string ⟨B.toArray⟩, .string ⟨K.toArray⟩, .string ⟨A.toArray⟩, .int .i64 n, .int .u64 u, pv, dv] 26)
  have hg0 := Grow.alloc w (.cells #[.int .u64 id, .int .i64 1, .string ⟨B.toArray⟩, .string ⟨K.toArray⟩, .string ⟨A.toArray⟩, .int .i64 n, .int .u64 u, pv, dv] 26)
  generalize w.alloc (.cells #[.int .u64 id, .int .i64 1, .string ⟨B.toArray⟩, .string ⟨K.toArray⟩, .string ⟨A.toArray⟩, .int .i64 n, .int .u64 u, pv, dv] 26) = W0 at *
  have HG := Lib.hid hg0
  have lb1 : w.heap.size < W0.heap.size := lt_of_getElem? hbk
  clear hg0
  generalize w.heap.size = B1 at *
  have q1 : W0.cell? ⟨B1, 1, none⟩ = some (.int .i64 1) := ck_cell hbk rfl
  have q2 : W0.cell? ⟨B1, 2, none⟩ = some (.string ⟨B.toArray⟩) := ck_cell hbk rfl
  have q3 : W0.cell? ⟨B1, 3, none⟩ = some (.string ⟨K.toArray⟩) := ck_cell hbk rfl
  have q4 : W0.cell? ⟨B1, 4, none⟩ = some (.string ⟨A.toArray⟩) := ck_cell hbk rfl
  have q5 : W0.cell? ⟨B1, 5, none⟩ = some (.int .i64 n) := ck_cell hbk rfl
  have q6 : W0.cell? ⟨B1, 6, none⟩ = some (.int .u64 u) := ck_cell hbk rfl
  have q7 : W0.cell? ⟨B1, 7, none⟩ = some (pv) := ck_cell hbk rfl
  clear hbk
  have hcl := Grow.cells (w := W0)
  go_wp2_with fail
  (with_reducible refine (HE.out _).mono ?_)
  rintro e w1 ⟨rfl, hw1⟩
  go_wp2_with fail
  (with_reducible refine (HX.out _).mono ?_)
  rintro e w2 ⟨rfl, hw2⟩
  have hw02 : Grow W0 w2 := hw1.trans hw2
  go_wp2
  go_ret
  exact ⟨congrArg (fun x : List UInt8 => Ending.returned (.string ⟨x.toArray⟩)) Hc.out, HG.out.trans hw02⟩

set_option maxRecDepth 100000 in
set_option maxHeartbeats 4000000 in
theorem line_2 {w : World} {id u : Nat} {n : Int} {B K A : List UInt8} {pv dv : Value} (hu : u < 18446744073709551616) (hB : B.length ≤ 100000) (hK : K.length ≤ 100000) :
    Calls Tryz.prog 74 #[.agg #[.int .u64 id, .int .i64 2, .string ⟨B.toArray⟩, .string ⟨K.toArray⟩, .string ⟨A.toArray⟩, .int .i64 n, .int .u64 u, pv, dv]] w fun e w' => e = .returned (.string ⟨(([68, 69, 76, 69, 84, 69, 32] : List UInt8) ++ (47 :: B)).toArray⟩) ∧ Grow w w' := by
  have HE : Hid (∀ W, Calls Tryz.prog 16 #[.string ⟨K.toArray⟩] W fun e w' => e = .returned (.string ⟨(esc K).toArray⟩) ∧ Grow W w') := Lib.hid (fun W => escapeR_any ⟨K.toArray⟩ W (by show K.toArray.size ≤ _; simp; omega))
  have HEl := esc_len K
  have HX : Hid (∀ W, Calls Tryz.prog 58 #[.int .u64 u] W fun e w' => e = .returned (.string ⟨(hex16 u).toArray⟩) ∧ Grow W w') := Lib.hid (fun W => hex_any u hu W)
  have hX : (hex16 u).length = 16 := hexF_len 16 u
  obtain ⟨S1, HS1⟩ : ∃ S : List UInt8, Hid (S = ([47] : List UInt8) ++ (B)) := ⟨_, Lib.hid rfl⟩
  have e1 : (⟨#[47]⟩ : ByteArray) ++ ⟨(B).toArray⟩ = ⟨S1.toArray⟩ := by rw [HS1.out]; exact ba_append ([47] : List UInt8) (B)
  have z1 : ¬ (9223372036854775807 < 1 + (B).length) := by omega
  have y1 : S1.length ≤ 100001 := by rw [HS1.out, List.length_append]; (try simp only [List.length_cons, List.length_nil]); omega
  obtain ⟨S2, HS2⟩ : ∃ S : List UInt8, Hid (S = (S1) ++ ([47] : List UInt8)) := ⟨_, Lib.hid rfl⟩
  have e2 : (⟨(S1).toArray⟩ : ByteArray) ++ ⟨#[47]⟩ = ⟨S2.toArray⟩ := by rw [HS2.out]; exact ba_append (S1) ([47] : List UInt8)
  have z2 : ¬ (9223372036854775807 < (S1).length + 1) := by omega
  have y2 : S2.length ≤ 100002 := by rw [HS2.out, List.length_append]; (try simp only [List.length_cons, List.length_nil]); omega
  obtain ⟨S3, HS3⟩ : ∃ S : List UInt8, Hid (S = (S2) ++ (esc K)) := ⟨_, Lib.hid rfl⟩
  have e3 : (⟨(S2).toArray⟩ : ByteArray) ++ ⟨(esc K).toArray⟩ = ⟨S3.toArray⟩ := by rw [HS3.out]; exact ba_append (S2) (esc K)
  have z3 : ¬ (9223372036854775807 < (S2).length + (esc K).length) := by omega
  have y3 : S3.length ≤ 400100 := by rw [HS3.out, List.length_append]; (try simp only [List.length_cons, List.length_nil]); omega
  obtain ⟨S4, HS4⟩ : ∃ S : List UInt8, Hid (S = ([47, 63, 117, 112, 108, 111, 97, 100, 61] : List UInt8) ++ (hex16 u)) := ⟨_, Lib.hid rfl⟩
  have e4 : (⟨#[47, 63, 117, 112, 108, 111, 97, 100, 61]⟩ : ByteArray) ++ ⟨(hex16 u).toArray⟩ = ⟨S4.toArray⟩ := by rw [HS4.out]; exact ba_append ([47, 63, 117, 112, 108, 111, 97, 100, 61] : List UInt8) (hex16 u)
  have z4 : ¬ (9223372036854775807 < 9 + (hex16 u).length) := by omega
  have y4 : S4.length ≤ 25 := by rw [HS4.out, List.length_append]; (try simp only [List.length_cons, List.length_nil]); omega
  obtain ⟨S5, HS5⟩ : ∃ S : List UInt8, Hid (S = ([68, 69, 76, 69, 84, 69, 32] : List UInt8) ++ (S1)) := ⟨_, Lib.hid rfl⟩
  have e5 : (⟨#[68, 69, 76, 69, 84, 69, 32]⟩ : ByteArray) ++ ⟨(S1).toArray⟩ = ⟨S5.toArray⟩ := by rw [HS5.out]; exact ba_append ([68, 69, 76, 69, 84, 69, 32] : List UInt8) (S1)
  have z5 : ¬ (9223372036854775807 < 7 + (S1).length) := by omega
  have y5 : S5.length ≤ 500000 := by rw [HS5.out, List.length_append]; (try simp only [List.length_cons, List.length_nil]); omega
  have Hc : Hid (S5 = ([68, 69, 76, 69, 84, 69, 32] : List UInt8) ++ (47 :: B)) := Lib.hid (by rw [HS5.out, HS1.out]; (try simp only [List.cons_append, List.nil_append]))
  clear HEl hX y1 y2 y3 y4 y5
  go_enter Tryz.func74, Tryz.ntmps74
  go_upto_region 1 with fail
  have hbk := heap_alloc_new w (.cells #[.int .u64 id, .int .i64 2, .string ⟨B.toArray⟩, .string ⟨K.toArray⟩, .string ⟨A.toArray⟩, .int .i64 n, .int .u64 u, pv, dv] 26)
  have hg0 := Grow.alloc w (.cells #[.int .u64 id, .int .i64 2, .string ⟨B.toArray⟩, .string ⟨K.toArray⟩, .string ⟨A.toArray⟩, .int .i64 n, .int .u64 u, pv, dv] 26)
  generalize w.alloc (.cells #[.int .u64 id, .int .i64 2, .string ⟨B.toArray⟩, .string ⟨K.toArray⟩, .string ⟨A.toArray⟩, .int .i64 n, .int .u64 u, pv, dv] 26) = W0 at *
  have HG := Lib.hid hg0
  have lb1 : w.heap.size < W0.heap.size := lt_of_getElem? hbk
  clear hg0
  generalize w.heap.size = B1 at *
  have q1 : W0.cell? ⟨B1, 1, none⟩ = some (.int .i64 2) := ck_cell hbk rfl
  have q2 : W0.cell? ⟨B1, 2, none⟩ = some (.string ⟨B.toArray⟩) := ck_cell hbk rfl
  have q3 : W0.cell? ⟨B1, 3, none⟩ = some (.string ⟨K.toArray⟩) := ck_cell hbk rfl
  have q4 : W0.cell? ⟨B1, 4, none⟩ = some (.string ⟨A.toArray⟩) := ck_cell hbk rfl
  have q5 : W0.cell? ⟨B1, 5, none⟩ = some (.int .i64 n) := ck_cell hbk rfl
  have q6 : W0.cell? ⟨B1, 6, none⟩ = some (.int .u64 u) := ck_cell hbk rfl
  have q7 : W0.cell? ⟨B1, 7, none⟩ = some (pv) := ck_cell hbk rfl
  clear hbk
  have hcl := Grow.cells (w := W0)
  go_wp2_with fail
  (with_reducible refine (HE.out _).mono ?_)
  rintro e w1 ⟨rfl, hw1⟩
  go_wp2_with fail
  (with_reducible refine (HX.out _).mono ?_)
  rintro e w2 ⟨rfl, hw2⟩
  have hw02 : Grow W0 w2 := hw1.trans hw2
  go_wp2
  go_ret
  exact ⟨congrArg (fun x : List UInt8 => Ending.returned (.string ⟨x.toArray⟩)) Hc.out, HG.out.trans hw02⟩

set_option maxRecDepth 100000 in
set_option maxHeartbeats 4000000 in
theorem line_3 {w : World} {id u : Nat} {n : Int} {B K A : List UInt8} {pv dv : Value} (hu : u < 18446744073709551616) (hB : B.length ≤ 100000) (hK : K.length ≤ 100000) :
    Calls Tryz.prog 74 #[.agg #[.int .u64 id, .int .i64 3, .string ⟨B.toArray⟩, .string ⟨K.toArray⟩, .string ⟨A.toArray⟩, .int .i64 n, .int .u64 u, pv, dv]] w fun e w' => e = .returned (.string ⟨(([80, 85, 84, 32] : List UInt8) ++ (47 :: (B ++ (47 :: esc K)))).toArray⟩) ∧ Grow w w' := by
  have HE : Hid (∀ W, Calls Tryz.prog 16 #[.string ⟨K.toArray⟩] W fun e w' => e = .returned (.string ⟨(esc K).toArray⟩) ∧ Grow W w') := Lib.hid (fun W => escapeR_any ⟨K.toArray⟩ W (by show K.toArray.size ≤ _; simp; omega))
  have HEl := esc_len K
  have HX : Hid (∀ W, Calls Tryz.prog 58 #[.int .u64 u] W fun e w' => e = .returned (.string ⟨(hex16 u).toArray⟩) ∧ Grow W w') := Lib.hid (fun W => hex_any u hu W)
  have hX : (hex16 u).length = 16 := hexF_len 16 u
  obtain ⟨S1, HS1⟩ : ∃ S : List UInt8, Hid (S = ([47] : List UInt8) ++ (B)) := ⟨_, Lib.hid rfl⟩
  have e1 : (⟨#[47]⟩ : ByteArray) ++ ⟨(B).toArray⟩ = ⟨S1.toArray⟩ := by rw [HS1.out]; exact ba_append ([47] : List UInt8) (B)
  have z1 : ¬ (9223372036854775807 < 1 + (B).length) := by omega
  have y1 : S1.length ≤ 100001 := by rw [HS1.out, List.length_append]; (try simp only [List.length_cons, List.length_nil]); omega
  obtain ⟨S2, HS2⟩ : ∃ S : List UInt8, Hid (S = (S1) ++ ([47] : List UInt8)) := ⟨_, Lib.hid rfl⟩
  have e2 : (⟨(S1).toArray⟩ : ByteArray) ++ ⟨#[47]⟩ = ⟨S2.toArray⟩ := by rw [HS2.out]; exact ba_append (S1) ([47] : List UInt8)
  have z2 : ¬ (9223372036854775807 < (S1).length + 1) := by omega
  have y2 : S2.length ≤ 100002 := by rw [HS2.out, List.length_append]; (try simp only [List.length_cons, List.length_nil]); omega
  obtain ⟨S3, HS3⟩ : ∃ S : List UInt8, Hid (S = (S2) ++ (esc K)) := ⟨_, Lib.hid rfl⟩
  have e3 : (⟨(S2).toArray⟩ : ByteArray) ++ ⟨(esc K).toArray⟩ = ⟨S3.toArray⟩ := by rw [HS3.out]; exact ba_append (S2) (esc K)
  have z3 : ¬ (9223372036854775807 < (S2).length + (esc K).length) := by omega
  have y3 : S3.length ≤ 400100 := by rw [HS3.out, List.length_append]; (try simp only [List.length_cons, List.length_nil]); omega
  obtain ⟨S4, HS4⟩ : ∃ S : List UInt8, Hid (S = ([47, 63, 117, 112, 108, 111, 97, 100, 61] : List UInt8) ++ (hex16 u)) := ⟨_, Lib.hid rfl⟩
  have e4 : (⟨#[47, 63, 117, 112, 108, 111, 97, 100, 61]⟩ : ByteArray) ++ ⟨(hex16 u).toArray⟩ = ⟨S4.toArray⟩ := by rw [HS4.out]; exact ba_append ([47, 63, 117, 112, 108, 111, 97, 100, 61] : List UInt8) (hex16 u)
  have z4 : ¬ (9223372036854775807 < 9 + (hex16 u).length) := by omega
  have y4 : S4.length ≤ 25 := by rw [HS4.out, List.length_append]; (try simp only [List.length_cons, List.length_nil]); omega
  obtain ⟨S5, HS5⟩ : ∃ S : List UInt8, Hid (S = ([80, 85, 84, 32] : List UInt8) ++ (S3)) := ⟨_, Lib.hid rfl⟩
  have e5 : (⟨#[80, 85, 84, 32]⟩ : ByteArray) ++ ⟨(S3).toArray⟩ = ⟨S5.toArray⟩ := by rw [HS5.out]; exact ba_append ([80, 85, 84, 32] : List UInt8) (S3)
  have z5 : ¬ (9223372036854775807 < 4 + (S3).length) := by omega
  have y5 : S5.length ≤ 500000 := by rw [HS5.out, List.length_append]; (try simp only [List.length_cons, List.length_nil]); omega
  have Hc : Hid (S5 = ([80, 85, 84, 32] : List UInt8) ++ (47 :: (B ++ (47 :: esc K)))) := Lib.hid (by rw [HS5.out, HS3.out, HS2.out, HS1.out]; (try simp only [List.append_assoc, List.cons_append, List.nil_append]))
  clear HEl hX y1 y2 y3 y4 y5
  go_enter Tryz.func74, Tryz.ntmps74
  go_upto_region 1 with fail
  have hbk := heap_alloc_new w (.cells #[.int .u64 id, .int .i64 3, .string ⟨B.toArray⟩, .string ⟨K.toArray⟩, .string ⟨A.toArray⟩, .int .i64 n, .int .u64 u, pv, dv] 26)
  have hg0 := Grow.alloc w (.cells #[.int .u64 id, .int .i64 3, .string ⟨B.toArray⟩, .string ⟨K.toArray⟩, .string ⟨A.toArray⟩, .int .i64 n, .int .u64 u, pv, dv] 26)
  generalize w.alloc (.cells #[.int .u64 id, .int .i64 3, .string ⟨B.toArray⟩, .string ⟨K.toArray⟩, .string ⟨A.toArray⟩, .int .i64 n, .int .u64 u, pv, dv] 26) = W0 at *
  have HG := Lib.hid hg0
  have lb1 : w.heap.size < W0.heap.size := lt_of_getElem? hbk
  clear hg0
  generalize w.heap.size = B1 at *
  have q1 : W0.cell? ⟨B1, 1, none⟩ = some (.int .i64 3) := ck_cell hbk rfl
  have q2 : W0.cell? ⟨B1, 2, none⟩ = some (.string ⟨B.toArray⟩) := ck_cell hbk rfl
  have q3 : W0.cell? ⟨B1, 3, none⟩ = some (.string ⟨K.toArray⟩) := ck_cell hbk rfl
  have q4 : W0.cell? ⟨B1, 4, none⟩ = some (.string ⟨A.toArray⟩) := ck_cell hbk rfl
  have q5 : W0.cell? ⟨B1, 5, none⟩ = some (.int .i64 n) := ck_cell hbk rfl
  have q6 : W0.cell? ⟨B1, 6, none⟩ = some (.int .u64 u) := ck_cell hbk rfl
  have q7 : W0.cell? ⟨B1, 7, none⟩ = some (pv) := ck_cell hbk rfl
  clear hbk
  have hcl := Grow.cells (w := W0)
  go_wp2_with fail
  (with_reducible refine (HE.out _).mono ?_)
  rintro e w1 ⟨rfl, hw1⟩
  go_wp2_with fail
  (with_reducible refine (HX.out _).mono ?_)
  rintro e w2 ⟨rfl, hw2⟩
  have hw02 : Grow W0 w2 := hw1.trans hw2
  go_wp2
  go_ret
  exact ⟨congrArg (fun x : List UInt8 => Ending.returned (.string ⟨x.toArray⟩)) Hc.out, HG.out.trans hw02⟩

set_option maxRecDepth 100000 in
set_option maxHeartbeats 4000000 in
theorem line_4 {w : World} {id u : Nat} {n : Int} {B K A : List UInt8} {pv dv : Value} (hu : u < 18446744073709551616) (hB : B.length ≤ 100000) (hK : K.length ≤ 100000) :
    Calls Tryz.prog 74 #[.agg #[.int .u64 id, .int .i64 4, .string ⟨B.toArray⟩, .string ⟨K.toArray⟩, .string ⟨A.toArray⟩, .int .i64 n, .int .u64 u, pv, dv]] w fun e w' => e = .returned (.string ⟨(([71, 69, 84, 32] : List UInt8) ++ (47 :: (B ++ (47 :: esc K)))).toArray⟩) ∧ Grow w w' := by
  have HE : Hid (∀ W, Calls Tryz.prog 16 #[.string ⟨K.toArray⟩] W fun e w' => e = .returned (.string ⟨(esc K).toArray⟩) ∧ Grow W w') := Lib.hid (fun W => escapeR_any ⟨K.toArray⟩ W (by show K.toArray.size ≤ _; simp; omega))
  have HEl := esc_len K
  have HX : Hid (∀ W, Calls Tryz.prog 58 #[.int .u64 u] W fun e w' => e = .returned (.string ⟨(hex16 u).toArray⟩) ∧ Grow W w') := Lib.hid (fun W => hex_any u hu W)
  have hX : (hex16 u).length = 16 := hexF_len 16 u
  obtain ⟨S1, HS1⟩ : ∃ S : List UInt8, Hid (S = ([47] : List UInt8) ++ (B)) := ⟨_, Lib.hid rfl⟩
  have e1 : (⟨#[47]⟩ : ByteArray) ++ ⟨(B).toArray⟩ = ⟨S1.toArray⟩ := by rw [HS1.out]; exact ba_append ([47] : List UInt8) (B)
  have z1 : ¬ (9223372036854775807 < 1 + (B).length) := by omega
  have y1 : S1.length ≤ 100001 := by rw [HS1.out, List.length_append]; (try simp only [List.length_cons, List.length_nil]); omega
  obtain ⟨S2, HS2⟩ : ∃ S : List UInt8, Hid (S = (S1) ++ ([47] : List UInt8)) := ⟨_, Lib.hid rfl⟩
  have e2 : (⟨(S1).toArray⟩ : ByteArray) ++ ⟨#[47]⟩ = ⟨S2.toArray⟩ := by rw [HS2.out]; exact ba_append (S1) ([47] : List UInt8)
  have z2 : ¬ (9223372036854775807 < (S1).length + 1) := by omega
  have y2 : S2.length ≤ 100002 := by rw [HS2.out, List.length_append]; (try simp only [List.length_cons, List.length_nil]); omega
  obtain ⟨S3, HS3⟩ : ∃ S : List UInt8, Hid (S = (S2) ++ (esc K)) := ⟨_, Lib.hid rfl⟩
  have e3 : (⟨(S2).toArray⟩ : ByteArray) ++ ⟨(esc K).toArray⟩ = ⟨S3.toArray⟩ := by rw [HS3.out]; exact ba_append (S2) (esc K)
  have z3 : ¬ (9223372036854775807 < (S2).length + (esc K).length) := by omega
  have y3 : S3.length ≤ 400100 := by rw [HS3.out, List.length_append]; (try simp only [List.length_cons, List.length_nil]); omega
  obtain ⟨S4, HS4⟩ : ∃ S : List UInt8, Hid (S = ([47, 63, 117, 112, 108, 111, 97, 100, 61] : List UInt8) ++ (hex16 u)) := ⟨_, Lib.hid rfl⟩
  have e4 : (⟨#[47, 63, 117, 112, 108, 111, 97, 100, 61]⟩ : ByteArray) ++ ⟨(hex16 u).toArray⟩ = ⟨S4.toArray⟩ := by rw [HS4.out]; exact ba_append ([47, 63, 117, 112, 108, 111, 97, 100, 61] : List UInt8) (hex16 u)
  have z4 : ¬ (9223372036854775807 < 9 + (hex16 u).length) := by omega
  have y4 : S4.length ≤ 25 := by rw [HS4.out, List.length_append]; (try simp only [List.length_cons, List.length_nil]); omega
  obtain ⟨S5, HS5⟩ : ∃ S : List UInt8, Hid (S = ([71, 69, 84, 32] : List UInt8) ++ (S3)) := ⟨_, Lib.hid rfl⟩
  have e5 : (⟨#[71, 69, 84, 32]⟩ : ByteArray) ++ ⟨(S3).toArray⟩ = ⟨S5.toArray⟩ := by rw [HS5.out]; exact ba_append ([71, 69, 84, 32] : List UInt8) (S3)
  have z5 : ¬ (9223372036854775807 < 4 + (S3).length) := by omega
  have y5 : S5.length ≤ 500000 := by rw [HS5.out, List.length_append]; (try simp only [List.length_cons, List.length_nil]); omega
  have Hc : Hid (S5 = ([71, 69, 84, 32] : List UInt8) ++ (47 :: (B ++ (47 :: esc K)))) := Lib.hid (by rw [HS5.out, HS3.out, HS2.out, HS1.out]; (try simp only [List.append_assoc, List.cons_append, List.nil_append]))
  clear HEl hX y1 y2 y3 y4 y5
  go_enter Tryz.func74, Tryz.ntmps74
  go_upto_region 1 with fail
  have hbk := heap_alloc_new w (.cells #[.int .u64 id, .int .i64 4, .string ⟨B.toArray⟩, .string ⟨K.toArray⟩, .string ⟨A.toArray⟩, .int .i64 n, .int .u64 u, pv, dv] 26)
  have hg0 := Grow.alloc w (.cells #[.int .u64 id, .int .i64 4, .string ⟨B.toArray⟩, .string ⟨K.toArray⟩, .string ⟨A.toArray⟩, .int .i64 n, .int .u64 u, pv, dv] 26)
  generalize w.alloc (.cells #[.int .u64 id, .int .i64 4, .string ⟨B.toArray⟩, .string ⟨K.toArray⟩, .string ⟨A.toArray⟩, .int .i64 n, .int .u64 u, pv, dv] 26) = W0 at *
  have HG := Lib.hid hg0
  have lb1 : w.heap.size < W0.heap.size := lt_of_getElem? hbk
  clear hg0
  generalize w.heap.size = B1 at *
  have q1 : W0.cell? ⟨B1, 1, none⟩ = some (.int .i64 4) := ck_cell hbk rfl
  have q2 : W0.cell? ⟨B1, 2, none⟩ = some (.string ⟨B.toArray⟩) := ck_cell hbk rfl
  have q3 : W0.cell? ⟨B1, 3, none⟩ = some (.string ⟨K.toArray⟩) := ck_cell hbk rfl
  have q4 : W0.cell? ⟨B1, 4, none⟩ = some (.string ⟨A.toArray⟩) := ck_cell hbk rfl
  have q5 : W0.cell? ⟨B1, 5, none⟩ = some (.int .i64 n) := ck_cell hbk rfl
  have q6 : W0.cell? ⟨B1, 6, none⟩ = some (.int .u64 u) := ck_cell hbk rfl
  have q7 : W0.cell? ⟨B1, 7, none⟩ = some (pv) := ck_cell hbk rfl
  clear hbk
  have hcl := Grow.cells (w := W0)
  go_wp2_with fail
  (with_reducible refine (HE.out _).mono ?_)
  rintro e w1 ⟨rfl, hw1⟩
  go_wp2_with fail
  (with_reducible refine (HX.out _).mono ?_)
  rintro e w2 ⟨rfl, hw2⟩
  have hw02 : Grow W0 w2 := hw1.trans hw2
  go_wp2
  go_ret
  exact ⟨congrArg (fun x : List UInt8 => Ending.returned (.string ⟨x.toArray⟩)) Hc.out, HG.out.trans hw02⟩

set_option maxRecDepth 100000 in
set_option maxHeartbeats 4000000 in
theorem line_5 {w : World} {id u : Nat} {n : Int} {B K A : List UInt8} {pv dv : Value} (hu : u < 18446744073709551616) (hB : B.length ≤ 100000) (hK : K.length ≤ 100000) :
    Calls Tryz.prog 74 #[.agg #[.int .u64 id, .int .i64 5, .string ⟨B.toArray⟩, .string ⟨K.toArray⟩, .string ⟨A.toArray⟩, .int .i64 n, .int .u64 u, pv, dv]] w fun e w' => e = .returned (.string ⟨(([68, 69, 76, 69, 84, 69, 32] : List UInt8) ++ (47 :: (B ++ (47 :: esc K)))).toArray⟩) ∧ Grow w w' := by
  have HE : Hid (∀ W, Calls Tryz.prog 16 #[.string ⟨K.toArray⟩] W fun e w' => e = .returned (.string ⟨(esc K).toArray⟩) ∧ Grow W w') := Lib.hid (fun W => escapeR_any ⟨K.toArray⟩ W (by show K.toArray.size ≤ _; simp; omega))
  have HEl := esc_len K
  have HX : Hid (∀ W, Calls Tryz.prog 58 #[.int .u64 u] W fun e w' => e = .returned (.string ⟨(hex16 u).toArray⟩) ∧ Grow W w') := Lib.hid (fun W => hex_any u hu W)
  have hX : (hex16 u).length = 16 := hexF_len 16 u
  obtain ⟨S1, HS1⟩ : ∃ S : List UInt8, Hid (S = ([47] : List UInt8) ++ (B)) := ⟨_, Lib.hid rfl⟩
  have e1 : (⟨#[47]⟩ : ByteArray) ++ ⟨(B).toArray⟩ = ⟨S1.toArray⟩ := by rw [HS1.out]; exact ba_append ([47] : List UInt8) (B)
  have z1 : ¬ (9223372036854775807 < 1 + (B).length) := by omega
  have y1 : S1.length ≤ 100001 := by rw [HS1.out, List.length_append]; (try simp only [List.length_cons, List.length_nil]); omega
  obtain ⟨S2, HS2⟩ : ∃ S : List UInt8, Hid (S = (S1) ++ ([47] : List UInt8)) := ⟨_, Lib.hid rfl⟩
  have e2 : (⟨(S1).toArray⟩ : ByteArray) ++ ⟨#[47]⟩ = ⟨S2.toArray⟩ := by rw [HS2.out]; exact ba_append (S1) ([47] : List UInt8)
  have z2 : ¬ (9223372036854775807 < (S1).length + 1) := by omega
  have y2 : S2.length ≤ 100002 := by rw [HS2.out, List.length_append]; (try simp only [List.length_cons, List.length_nil]); omega
  obtain ⟨S3, HS3⟩ : ∃ S : List UInt8, Hid (S = (S2) ++ (esc K)) := ⟨_, Lib.hid rfl⟩
  have e3 : (⟨(S2).toArray⟩ : ByteArray) ++ ⟨(esc K).toArray⟩ = ⟨S3.toArray⟩ := by rw [HS3.out]; exact ba_append (S2) (esc K)
  have z3 : ¬ (9223372036854775807 < (S2).length + (esc K).length) := by omega
  have y3 : S3.length ≤ 400100 := by rw [HS3.out, List.length_append]; (try simp only [List.length_cons, List.length_nil]); omega
  obtain ⟨S4, HS4⟩ : ∃ S : List UInt8, Hid (S = ([47, 63, 117, 112, 108, 111, 97, 100, 61] : List UInt8) ++ (hex16 u)) := ⟨_, Lib.hid rfl⟩
  have e4 : (⟨#[47, 63, 117, 112, 108, 111, 97, 100, 61]⟩ : ByteArray) ++ ⟨(hex16 u).toArray⟩ = ⟨S4.toArray⟩ := by rw [HS4.out]; exact ba_append ([47, 63, 117, 112, 108, 111, 97, 100, 61] : List UInt8) (hex16 u)
  have z4 : ¬ (9223372036854775807 < 9 + (hex16 u).length) := by omega
  have y4 : S4.length ≤ 25 := by rw [HS4.out, List.length_append]; (try simp only [List.length_cons, List.length_nil]); omega
  obtain ⟨S5, HS5⟩ : ∃ S : List UInt8, Hid (S = ([68, 69, 76, 69, 84, 69, 32] : List UInt8) ++ (S3)) := ⟨_, Lib.hid rfl⟩
  have e5 : (⟨#[68, 69, 76, 69, 84, 69, 32]⟩ : ByteArray) ++ ⟨(S3).toArray⟩ = ⟨S5.toArray⟩ := by rw [HS5.out]; exact ba_append ([68, 69, 76, 69, 84, 69, 32] : List UInt8) (S3)
  have z5 : ¬ (9223372036854775807 < 7 + (S3).length) := by omega
  have y5 : S5.length ≤ 500000 := by rw [HS5.out, List.length_append]; (try simp only [List.length_cons, List.length_nil]); omega
  have Hc : Hid (S5 = ([68, 69, 76, 69, 84, 69, 32] : List UInt8) ++ (47 :: (B ++ (47 :: esc K)))) := Lib.hid (by rw [HS5.out, HS3.out, HS2.out, HS1.out]; (try simp only [List.append_assoc, List.cons_append, List.nil_append]))
  clear HEl hX y1 y2 y3 y4 y5
  go_enter Tryz.func74, Tryz.ntmps74
  go_upto_region 1 with fail
  have hbk := heap_alloc_new w (.cells #[.int .u64 id, .int .i64 5, .string ⟨B.toArray⟩, .string ⟨K.toArray⟩, .string ⟨A.toArray⟩, .int .i64 n, .int .u64 u, pv, dv] 26)
  have hg0 := Grow.alloc w (.cells #[.int .u64 id, .int .i64 5, .string ⟨B.toArray⟩, .string ⟨K.toArray⟩, .string ⟨A.toArray⟩, .int .i64 n, .int .u64 u, pv, dv] 26)
  generalize w.alloc (.cells #[.int .u64 id, .int .i64 5, .string ⟨B.toArray⟩, .string ⟨K.toArray⟩, .string ⟨A.toArray⟩, .int .i64 n, .int .u64 u, pv, dv] 26) = W0 at *
  have HG := Lib.hid hg0
  have lb1 : w.heap.size < W0.heap.size := lt_of_getElem? hbk
  clear hg0
  generalize w.heap.size = B1 at *
  have q1 : W0.cell? ⟨B1, 1, none⟩ = some (.int .i64 5) := ck_cell hbk rfl
  have q2 : W0.cell? ⟨B1, 2, none⟩ = some (.string ⟨B.toArray⟩) := ck_cell hbk rfl
  have q3 : W0.cell? ⟨B1, 3, none⟩ = some (.string ⟨K.toArray⟩) := ck_cell hbk rfl
  have q4 : W0.cell? ⟨B1, 4, none⟩ = some (.string ⟨A.toArray⟩) := ck_cell hbk rfl
  have q5 : W0.cell? ⟨B1, 5, none⟩ = some (.int .i64 n) := ck_cell hbk rfl
  have q6 : W0.cell? ⟨B1, 6, none⟩ = some (.int .u64 u) := ck_cell hbk rfl
  have q7 : W0.cell? ⟨B1, 7, none⟩ = some (pv) := ck_cell hbk rfl
  clear hbk
  have hcl := Grow.cells (w := W0)
  go_wp2_with fail
  (with_reducible refine (HE.out _).mono ?_)
  rintro e w1 ⟨rfl, hw1⟩
  go_wp2_with fail
  (with_reducible refine (HX.out _).mono ?_)
  rintro e w2 ⟨rfl, hw2⟩
  have hw02 : Grow W0 w2 := hw1.trans hw2
  go_wp2
  go_ret
  exact ⟨congrArg (fun x : List UInt8 => Ending.returned (.string ⟨x.toArray⟩)) Hc.out, HG.out.trans hw02⟩

set_option maxRecDepth 100000 in
set_option maxHeartbeats 4000000 in
theorem line_6 {w : World} {id u : Nat} {n : Int} {B K A : List UInt8} {pv dv : Value} (hA : A.length ≤ 100000) (h0 : 0 ≤ n) (h1 : n ≤ 2000000000000) (hu : u < 18446744073709551616) (hB : B.length ≤ 100000) (hK : K.length ≤ 100000) :
    Calls Tryz.prog 74 #[.agg #[.int .u64 id, .int .i64 6, .string ⟨B.toArray⟩, .string ⟨K.toArray⟩, .string ⟨A.toArray⟩, .int .i64 n, .int .u64 u, pv, dv]] w fun e w' => e = .returned (.string ⟨(([71, 69, 84, 32] : List UInt8) ++ (47 :: (B ++ ([63, 112, 114, 101, 102, 105, 120, 61] ++ (esc K ++ ([38, 97, 102, 116, 101, 114, 61] ++ (esc A ++ ([38, 110, 61] ++ decF n.toNat)))))))).toArray⟩) ∧ Grow w w' := by
  have HE : Hid (∀ W, Calls Tryz.prog 16 #[.string ⟨K.toArray⟩] W fun e w' => e = .returned (.string ⟨(esc K).toArray⟩) ∧ Grow W w') := Lib.hid (fun W => escapeR_any ⟨K.toArray⟩ W (by show K.toArray.size ≤ _; simp; omega))
  have HEl := esc_len K
  have HX : Hid (∀ W, Calls Tryz.prog 58 #[.int .u64 u] W fun e w' => e = .returned (.string ⟨(hex16 u).toArray⟩) ∧ Grow W w') := Lib.hid (fun W => hex_any u hu W)
  have hX : (hex16 u).length = 16 := hexF_len 16 u
  have HA : Hid (∀ W, Calls Tryz.prog 16 #[.string ⟨A.toArray⟩] W fun e w' => e = .returned (.string ⟨(esc A).toArray⟩) ∧ Grow W w') := Lib.hid (fun W => escapeR_any ⟨A.toArray⟩ W (by show A.toArray.size ≤ _; simp; omega))
  have HAl := esc_len A
  have HD : Hid (∀ W, Calls Tryz.prog 38 #[.int .i64 n] W fun e w' => e = .returned (.string ⟨(decF n.toNat).toArray⟩) ∧ Grow W w') := Lib.hid (fun W => decimalI h0 (by omega) W)
  have hN : (decF n.toNat).length ≤ 13 := decF_len 12 _ (by omega)
  obtain ⟨S1, HS1⟩ : ∃ S : List UInt8, Hid (S = ([47] : List UInt8) ++ (B)) := ⟨_, Lib.hid rfl⟩
  have e1 : (⟨#[47]⟩ : ByteArray) ++ ⟨(B).toArray⟩ = ⟨S1.toArray⟩ := by rw [HS1.out]; exact ba_append ([47] : List UInt8) (B)
  have z1 : ¬ (9223372036854775807 < 1 + (B).length) := by omega
  have y1 : S1.length ≤ 100001 := by rw [HS1.out, List.length_append]; (try simp only [List.length_cons, List.length_nil]); omega
  obtain ⟨S2, HS2⟩ : ∃ S : List UInt8, Hid (S = (S1) ++ ([47] : List UInt8)) := ⟨_, Lib.hid rfl⟩
  have e2 : (⟨(S1).toArray⟩ : ByteArray) ++ ⟨#[47]⟩ = ⟨S2.toArray⟩ := by rw [HS2.out]; exact ba_append (S1) ([47] : List UInt8)
  have z2 : ¬ (9223372036854775807 < (S1).length + 1) := by omega
  have y2 : S2.length ≤ 100002 := by rw [HS2.out, List.length_append]; (try simp only [List.length_cons, List.length_nil]); omega
  obtain ⟨S3, HS3⟩ : ∃ S : List UInt8, Hid (S = (S2) ++ (esc K)) := ⟨_, Lib.hid rfl⟩
  have e3 : (⟨(S2).toArray⟩ : ByteArray) ++ ⟨(esc K).toArray⟩ = ⟨S3.toArray⟩ := by rw [HS3.out]; exact ba_append (S2) (esc K)
  have z3 : ¬ (9223372036854775807 < (S2).length + (esc K).length) := by omega
  have y3 : S3.length ≤ 400100 := by rw [HS3.out, List.length_append]; (try simp only [List.length_cons, List.length_nil]); omega
  obtain ⟨S4, HS4⟩ : ∃ S : List UInt8, Hid (S = ([47, 63, 117, 112, 108, 111, 97, 100, 61] : List UInt8) ++ (hex16 u)) := ⟨_, Lib.hid rfl⟩
  have e4 : (⟨#[47, 63, 117, 112, 108, 111, 97, 100, 61]⟩ : ByteArray) ++ ⟨(hex16 u).toArray⟩ = ⟨S4.toArray⟩ := by rw [HS4.out]; exact ba_append ([47, 63, 117, 112, 108, 111, 97, 100, 61] : List UInt8) (hex16 u)
  have z4 : ¬ (9223372036854775807 < 9 + (hex16 u).length) := by omega
  have y4 : S4.length ≤ 25 := by rw [HS4.out, List.length_append]; (try simp only [List.length_cons, List.length_nil]); omega
  have Hc := HS1
  go_enter Tryz.func74, Tryz.ntmps74
  go_upto_region 1 with fail
  have hbk := heap_alloc_new w (.cells #[.int .u64 id, .int .i64 6, .string ⟨B.toArray⟩, .string ⟨K.toArray⟩, .string ⟨A.toArray⟩, .int .i64 n, .int .u64 u, pv, dv] 26)
  have hg0 := Grow.alloc w (.cells #[.int .u64 id, .int .i64 6, .string ⟨B.toArray⟩, .string ⟨K.toArray⟩, .string ⟨A.toArray⟩, .int .i64 n, .int .u64 u, pv, dv] 26)
  generalize w.alloc (.cells #[.int .u64 id, .int .i64 6, .string ⟨B.toArray⟩, .string ⟨K.toArray⟩, .string ⟨A.toArray⟩, .int .i64 n, .int .u64 u, pv, dv] 26) = W0 at *
  have HG := Lib.hid hg0
  have lb1 : w.heap.size < W0.heap.size := lt_of_getElem? hbk
  clear hg0
  generalize w.heap.size = B1 at *
  have q1 : W0.cell? ⟨B1, 1, none⟩ = some (.int .i64 6) := ck_cell hbk rfl
  have q2 : W0.cell? ⟨B1, 2, none⟩ = some (.string ⟨B.toArray⟩) := ck_cell hbk rfl
  have q3 : W0.cell? ⟨B1, 3, none⟩ = some (.string ⟨K.toArray⟩) := ck_cell hbk rfl
  have q4 : W0.cell? ⟨B1, 4, none⟩ = some (.string ⟨A.toArray⟩) := ck_cell hbk rfl
  have q5 : W0.cell? ⟨B1, 5, none⟩ = some (.int .i64 n) := ck_cell hbk rfl
  have q6 : W0.cell? ⟨B1, 6, none⟩ = some (.int .u64 u) := ck_cell hbk rfl
  have q7 : W0.cell? ⟨B1, 7, none⟩ = some (pv) := ck_cell hbk rfl
  clear hbk
  have hcl := Grow.cells (w := W0)
  go_wp2_with fail
  (with_reducible refine (HE.out _).mono ?_)
  rintro e w1 ⟨rfl, hw1⟩
  go_wp2_with fail
  (with_reducible refine (HX.out _).mono ?_)
  rintro e w2 ⟨rfl, hw2⟩
  have hw02 : Grow W0 w2 := hw1.trans hw2
  go_upto_region 10 with fail
  go_wp2_with fail
  refine wp_region_fix (fun W => Grow W0 W) (by kernel_rfl) (by kernel_rfl) (by kernel_rfl) (hw02.trans (Grow.drew _)) ?_
  repeat (first | (refine wpFix_quiet (by rfl) (fun W hW => exec_addS rfl rfl rfl (by (try simp only [List.length_append, List.length_cons, List.length_nil]); omega)) ?_; (try simp only [Act.put, List.setIfInBounds_toArray, List.set_cons_zero, List.set_cons_succ])) | (first | (refine wpFix_quiet (v := ?_) (by rfl) (fun W hW => ?_) ?_; rotate_left; (obtain hW := hW; go_simp; with_reducible rfl); (try simp only [Act.put, List.setIfInBounds_toArray, List.set_cons_zero, List.set_cons_succ])) | (refine wpFix_off (by rfl) ?_; (try simp only [Act.put, List.setIfInBounds_toArray, List.set_cons_zero, List.set_cons_succ]))))
  refine wpFix_call (by rfl) (fun W => by go_simp) (fun W hW => (HE.out W).mono (fun e W' h => ⟨h.1, Grow.trans hW h.2⟩)) ?_
  try try simp only [Act.put, List.setIfInBounds_toArray, List.set_cons_zero, List.set_cons_succ]
  repeat (first | (refine wpFix_quiet (by rfl) (fun W hW => exec_addS rfl rfl rfl (by (try simp only [List.length_append, List.length_cons, List.length_nil]); omega)) ?_; (try simp only [Act.put, List.setIfInBounds_toArray, List.set_cons_zero, List.set_cons_succ])) | (first | (refine wpFix_quiet (v := ?_) (by rfl) (fun W hW => ?_) ?_; rotate_left; (obtain hW := hW; go_simp; with_reducible rfl); (try simp only [Act.put, List.setIfInBounds_toArray, List.set_cons_zero, List.set_cons_succ])) | (refine wpFix_off (by rfl) ?_; (try simp only [Act.put, List.setIfInBounds_toArray, List.set_cons_zero, List.set_cons_succ]))))
  refine wpFix_call (by rfl) (fun W => by go_simp) (fun W hW => (HA.out W).mono (fun e W' h => ⟨h.1, Grow.trans hW h.2⟩)) ?_
  try try simp only [Act.put, List.setIfInBounds_toArray, List.set_cons_zero, List.set_cons_succ]
  repeat (first | (refine wpFix_quiet (by rfl) (fun W hW => exec_addS rfl rfl rfl (by (try simp only [List.length_append, List.length_cons, List.length_nil]); omega)) ?_; (try simp only [Act.put, List.setIfInBounds_toArray, List.set_cons_zero, List.set_cons_succ])) | (first | (refine wpFix_quiet (v := ?_) (by rfl) (fun W hW => ?_) ?_; rotate_left; (obtain hW := hW; go_simp; with_reducible rfl); (try simp only [Act.put, List.setIfInBounds_toArray, List.set_cons_zero, List.set_cons_succ])) | (refine wpFix_off (by rfl) ?_; (try simp only [Act.put, List.setIfInBounds_toArray, List.set_cons_zero, List.set_cons_succ]))))
  refine wpFix_call (by rfl) (fun W => by go_simp) (fun W hW => (HD.out W).mono (fun e W' h => ⟨h.1, Grow.trans hW h.2⟩)) ?_
  try try simp only [Act.put, List.setIfInBounds_toArray, List.set_cons_zero, List.set_cons_succ]
  repeat (first | (refine wpFix_quiet (by rfl) (fun W hW => exec_addS rfl rfl rfl (by (try simp only [List.length_append, List.length_cons, List.length_nil]); omega)) ?_; (try simp only [Act.put, List.setIfInBounds_toArray, List.set_cons_zero, List.set_cons_succ])) | (first | (refine wpFix_quiet (v := ?_) (by rfl) (fun W hW => ?_) ?_; rotate_left; (obtain hW := hW; go_simp; with_reducible rfl); (try simp only [Act.put, List.setIfInBounds_toArray, List.set_cons_zero, List.set_cons_succ])) | (refine wpFix_off (by rfl) ?_; (try simp only [Act.put, List.setIfInBounds_toArray, List.set_cons_zero, List.set_cons_succ]))))
  refine wpFix_nil (fun W hW => ?_)
  clear hcl
  go_wp2
  go_ret
  exact ⟨by rw [Hc.out]; rfl, HG.out.trans hW⟩

set_option maxRecDepth 100000 in
set_option maxHeartbeats 4000000 in
theorem line_7 {w : World} {id u : Nat} {n : Int} {B K A : List UInt8} {pv dv : Value} (hu : u < 18446744073709551616) (hB : B.length ≤ 100000) (hK : K.length ≤ 100000) :
    Calls Tryz.prog 74 #[.agg #[.int .u64 id, .int .i64 7, .string ⟨B.toArray⟩, .string ⟨K.toArray⟩, .string ⟨A.toArray⟩, .int .i64 n, .int .u64 u, pv, dv]] w fun e w' => e = .returned (.string ⟨(([80, 79, 83, 84, 32] : List UInt8) ++ (47 :: (B ++ (47 :: esc K)))).toArray⟩) ∧ Grow w w' := by
  have HE : Hid (∀ W, Calls Tryz.prog 16 #[.string ⟨K.toArray⟩] W fun e w' => e = .returned (.string ⟨(esc K).toArray⟩) ∧ Grow W w') := Lib.hid (fun W => escapeR_any ⟨K.toArray⟩ W (by show K.toArray.size ≤ _; simp; omega))
  have HEl := esc_len K
  have HX : Hid (∀ W, Calls Tryz.prog 58 #[.int .u64 u] W fun e w' => e = .returned (.string ⟨(hex16 u).toArray⟩) ∧ Grow W w') := Lib.hid (fun W => hex_any u hu W)
  have hX : (hex16 u).length = 16 := hexF_len 16 u
  obtain ⟨S1, HS1⟩ : ∃ S : List UInt8, Hid (S = ([47] : List UInt8) ++ (B)) := ⟨_, Lib.hid rfl⟩
  have e1 : (⟨#[47]⟩ : ByteArray) ++ ⟨(B).toArray⟩ = ⟨S1.toArray⟩ := by rw [HS1.out]; exact ba_append ([47] : List UInt8) (B)
  have z1 : ¬ (9223372036854775807 < 1 + (B).length) := by omega
  have y1 : S1.length ≤ 100001 := by rw [HS1.out, List.length_append]; (try simp only [List.length_cons, List.length_nil]); omega
  obtain ⟨S2, HS2⟩ : ∃ S : List UInt8, Hid (S = (S1) ++ ([47] : List UInt8)) := ⟨_, Lib.hid rfl⟩
  have e2 : (⟨(S1).toArray⟩ : ByteArray) ++ ⟨#[47]⟩ = ⟨S2.toArray⟩ := by rw [HS2.out]; exact ba_append (S1) ([47] : List UInt8)
  have z2 : ¬ (9223372036854775807 < (S1).length + 1) := by omega
  have y2 : S2.length ≤ 100002 := by rw [HS2.out, List.length_append]; (try simp only [List.length_cons, List.length_nil]); omega
  obtain ⟨S3, HS3⟩ : ∃ S : List UInt8, Hid (S = (S2) ++ (esc K)) := ⟨_, Lib.hid rfl⟩
  have e3 : (⟨(S2).toArray⟩ : ByteArray) ++ ⟨(esc K).toArray⟩ = ⟨S3.toArray⟩ := by rw [HS3.out]; exact ba_append (S2) (esc K)
  have z3 : ¬ (9223372036854775807 < (S2).length + (esc K).length) := by omega
  have y3 : S3.length ≤ 400100 := by rw [HS3.out, List.length_append]; (try simp only [List.length_cons, List.length_nil]); omega
  obtain ⟨S4, HS4⟩ : ∃ S : List UInt8, Hid (S = ([47, 63, 117, 112, 108, 111, 97, 100, 61] : List UInt8) ++ (hex16 u)) := ⟨_, Lib.hid rfl⟩
  have e4 : (⟨#[47, 63, 117, 112, 108, 111, 97, 100, 61]⟩ : ByteArray) ++ ⟨(hex16 u).toArray⟩ = ⟨S4.toArray⟩ := by rw [HS4.out]; exact ba_append ([47, 63, 117, 112, 108, 111, 97, 100, 61] : List UInt8) (hex16 u)
  have z4 : ¬ (9223372036854775807 < 9 + (hex16 u).length) := by omega
  have y4 : S4.length ≤ 25 := by rw [HS4.out, List.length_append]; (try simp only [List.length_cons, List.length_nil]); omega
  obtain ⟨S5, HS5⟩ : ∃ S : List UInt8, Hid (S = ([80, 79, 83, 84, 32] : List UInt8) ++ (S3)) := ⟨_, Lib.hid rfl⟩
  have e5 : (⟨#[80, 79, 83, 84, 32]⟩ : ByteArray) ++ ⟨(S3).toArray⟩ = ⟨S5.toArray⟩ := by rw [HS5.out]; exact ba_append ([80, 79, 83, 84, 32] : List UInt8) (S3)
  have z5 : ¬ (9223372036854775807 < 5 + (S3).length) := by omega
  have y5 : S5.length ≤ 500000 := by rw [HS5.out, List.length_append]; (try simp only [List.length_cons, List.length_nil]); omega
  have Hc : Hid (S5 = ([80, 79, 83, 84, 32] : List UInt8) ++ (47 :: (B ++ (47 :: esc K)))) := Lib.hid (by rw [HS5.out, HS3.out, HS2.out, HS1.out]; (try simp only [List.append_assoc, List.cons_append, List.nil_append]))
  clear HEl hX y1 y2 y3 y4 y5
  go_enter Tryz.func74, Tryz.ntmps74
  go_upto_region 1 with fail
  have hbk := heap_alloc_new w (.cells #[.int .u64 id, .int .i64 7, .string ⟨B.toArray⟩, .string ⟨K.toArray⟩, .string ⟨A.toArray⟩, .int .i64 n, .int .u64 u, pv, dv] 26)
  have hg0 := Grow.alloc w (.cells #[.int .u64 id, .int .i64 7, .string ⟨B.toArray⟩, .string ⟨K.toArray⟩, .string ⟨A.toArray⟩, .int .i64 n, .int .u64 u, pv, dv] 26)
  generalize w.alloc (.cells #[.int .u64 id, .int .i64 7, .string ⟨B.toArray⟩, .string ⟨K.toArray⟩, .string ⟨A.toArray⟩, .int .i64 n, .int .u64 u, pv, dv] 26) = W0 at *
  have HG := Lib.hid hg0
  have lb1 : w.heap.size < W0.heap.size := lt_of_getElem? hbk
  clear hg0
  generalize w.heap.size = B1 at *
  have q1 : W0.cell? ⟨B1, 1, none⟩ = some (.int .i64 7) := ck_cell hbk rfl
  have q2 : W0.cell? ⟨B1, 2, none⟩ = some (.string ⟨B.toArray⟩) := ck_cell hbk rfl
  have q3 : W0.cell? ⟨B1, 3, none⟩ = some (.string ⟨K.toArray⟩) := ck_cell hbk rfl
  have q4 : W0.cell? ⟨B1, 4, none⟩ = some (.string ⟨A.toArray⟩) := ck_cell hbk rfl
  have q5 : W0.cell? ⟨B1, 5, none⟩ = some (.int .i64 n) := ck_cell hbk rfl
  have q6 : W0.cell? ⟨B1, 6, none⟩ = some (.int .u64 u) := ck_cell hbk rfl
  have q7 : W0.cell? ⟨B1, 7, none⟩ = some (pv) := ck_cell hbk rfl
  clear hbk
  have hcl := Grow.cells (w := W0)
  go_wp2_with fail
  (with_reducible refine (HE.out _).mono ?_)
  rintro e w1 ⟨rfl, hw1⟩
  go_wp2_with fail
  (with_reducible refine (HX.out _).mono ?_)
  rintro e w2 ⟨rfl, hw2⟩
  have hw02 : Grow W0 w2 := hw1.trans hw2
  go_wp2
  go_ret
  exact ⟨congrArg (fun x : List UInt8 => Ending.returned (.string ⟨x.toArray⟩)) Hc.out, HG.out.trans hw02⟩

set_option maxRecDepth 100000 in
set_option maxHeartbeats 4000000 in
theorem line_8 {w : World} {id u : Nat} {n : Int} {B K A : List UInt8} {pv dv : Value} (h0 : 0 ≤ n) (h1 : n ≤ 2000000000000) (hu : u < 18446744073709551616) (hB : B.length ≤ 100000) (hK : K.length ≤ 100000) :
    Calls Tryz.prog 74 #[.agg #[.int .u64 id, .int .i64 8, .string ⟨B.toArray⟩, .string ⟨K.toArray⟩, .string ⟨A.toArray⟩, .int .i64 n, .int .u64 u, pv, dv]] w fun e w' => e = .returned (.string ⟨(([80, 85, 84, 32] : List UInt8) ++ (([47, 63, 117, 112, 108, 111, 97, 100, 61] : List UInt8) ++ (hex16 u ++ ([38, 112, 97, 114, 116, 61] ++ decF n.toNat)))).toArray⟩) ∧ Grow w w' := by
  have HE : Hid (∀ W, Calls Tryz.prog 16 #[.string ⟨K.toArray⟩] W fun e w' => e = .returned (.string ⟨(esc K).toArray⟩) ∧ Grow W w') := Lib.hid (fun W => escapeR_any ⟨K.toArray⟩ W (by show K.toArray.size ≤ _; simp; omega))
  have HEl := esc_len K
  have HX : Hid (∀ W, Calls Tryz.prog 58 #[.int .u64 u] W fun e w' => e = .returned (.string ⟨(hex16 u).toArray⟩) ∧ Grow W w') := Lib.hid (fun W => hex_any u hu W)
  have hX : (hex16 u).length = 16 := hexF_len 16 u
  have HD : Hid (∀ W, Calls Tryz.prog 38 #[.int .i64 n] W fun e w' => e = .returned (.string ⟨(decF n.toNat).toArray⟩) ∧ Grow W w') := Lib.hid (fun W => decimalI h0 (by omega) W)
  have hN : (decF n.toNat).length ≤ 13 := decF_len 12 _ (by omega)
  obtain ⟨S1, HS1⟩ : ∃ S : List UInt8, Hid (S = ([47] : List UInt8) ++ (B)) := ⟨_, Lib.hid rfl⟩
  have e1 : (⟨#[47]⟩ : ByteArray) ++ ⟨(B).toArray⟩ = ⟨S1.toArray⟩ := by rw [HS1.out]; exact ba_append ([47] : List UInt8) (B)
  have z1 : ¬ (9223372036854775807 < 1 + (B).length) := by omega
  have y1 : S1.length ≤ 100001 := by rw [HS1.out, List.length_append]; (try simp only [List.length_cons, List.length_nil]); omega
  obtain ⟨S2, HS2⟩ : ∃ S : List UInt8, Hid (S = (S1) ++ ([47] : List UInt8)) := ⟨_, Lib.hid rfl⟩
  have e2 : (⟨(S1).toArray⟩ : ByteArray) ++ ⟨#[47]⟩ = ⟨S2.toArray⟩ := by rw [HS2.out]; exact ba_append (S1) ([47] : List UInt8)
  have z2 : ¬ (9223372036854775807 < (S1).length + 1) := by omega
  have y2 : S2.length ≤ 100002 := by rw [HS2.out, List.length_append]; (try simp only [List.length_cons, List.length_nil]); omega
  obtain ⟨S3, HS3⟩ : ∃ S : List UInt8, Hid (S = (S2) ++ (esc K)) := ⟨_, Lib.hid rfl⟩
  have e3 : (⟨(S2).toArray⟩ : ByteArray) ++ ⟨(esc K).toArray⟩ = ⟨S3.toArray⟩ := by rw [HS3.out]; exact ba_append (S2) (esc K)
  have z3 : ¬ (9223372036854775807 < (S2).length + (esc K).length) := by omega
  have y3 : S3.length ≤ 400100 := by rw [HS3.out, List.length_append]; (try simp only [List.length_cons, List.length_nil]); omega
  obtain ⟨S4, HS4⟩ : ∃ S : List UInt8, Hid (S = ([47, 63, 117, 112, 108, 111, 97, 100, 61] : List UInt8) ++ (hex16 u)) := ⟨_, Lib.hid rfl⟩
  have e4 : (⟨#[47, 63, 117, 112, 108, 111, 97, 100, 61]⟩ : ByteArray) ++ ⟨(hex16 u).toArray⟩ = ⟨S4.toArray⟩ := by rw [HS4.out]; exact ba_append ([47, 63, 117, 112, 108, 111, 97, 100, 61] : List UInt8) (hex16 u)
  have z4 : ¬ (9223372036854775807 < 9 + (hex16 u).length) := by omega
  have y4 : S4.length ≤ 25 := by rw [HS4.out, List.length_append]; (try simp only [List.length_cons, List.length_nil]); omega
  obtain ⟨S5, HS5⟩ : ∃ S : List UInt8, Hid (S = ([80, 85, 84, 32] : List UInt8) ++ (S4)) := ⟨_, Lib.hid rfl⟩
  have e5 : (⟨#[80, 85, 84, 32]⟩ : ByteArray) ++ ⟨(S4).toArray⟩ = ⟨S5.toArray⟩ := by rw [HS5.out]; exact ba_append ([80, 85, 84, 32] : List UInt8) (S4)
  have z5 : ¬ (9223372036854775807 < 4 + (S4).length) := by omega
  have y5 : S5.length ≤ 500000 := by rw [HS5.out, List.length_append]; (try simp only [List.length_cons, List.length_nil]); omega
  obtain ⟨S6, HS6⟩ : ∃ S : List UInt8, Hid (S = (S5) ++ ([38, 112, 97, 114, 116, 61] : List UInt8)) := ⟨_, Lib.hid rfl⟩
  have e6 : (⟨(S5).toArray⟩ : ByteArray) ++ ⟨#[38, 112, 97, 114, 116, 61]⟩ = ⟨S6.toArray⟩ := by rw [HS6.out]; exact ba_append (S5) ([38, 112, 97, 114, 116, 61] : List UInt8)
  have z6 : ¬ (9223372036854775807 < (S5).length + 6) := by omega
  have y6 : S6.length ≤ 500010 := by rw [HS6.out, List.length_append]; (try simp only [List.length_cons, List.length_nil]); omega
  obtain ⟨S7, HS7⟩ : ∃ S : List UInt8, Hid (S = (S6) ++ (decF n.toNat)) := ⟨_, Lib.hid rfl⟩
  have e7 : (⟨(S6).toArray⟩ : ByteArray) ++ ⟨(decF n.toNat).toArray⟩ = ⟨S7.toArray⟩ := by rw [HS7.out]; exact ba_append (S6) (decF n.toNat)
  have z7 : ¬ (9223372036854775807 < (S6).length + (decF n.toNat).length) := by omega
  have y7 : S7.length ≤ 1000000 := by rw [HS7.out, List.length_append]; (try simp only [List.length_cons, List.length_nil]); omega
  have Hc : Hid (S7 = ([80, 85, 84, 32] : List UInt8) ++ (([47, 63, 117, 112, 108, 111, 97, 100, 61] : List UInt8) ++ (hex16 u ++ ([38, 112, 97, 114, 116, 61] ++ decF n.toNat)))) := Lib.hid (by rw [HS7.out, HS6.out, HS5.out, HS4.out]; (try simp only [List.append_assoc, List.cons_append, List.nil_append]))
  clear HEl hX y1 y2 y3 y4 y5 y6 y7
  go_enter Tryz.func74, Tryz.ntmps74
  go_upto_region 1 with fail
  have hbk := heap_alloc_new w (.cells #[.int .u64 id, .int .i64 8, .string ⟨B.toArray⟩, .string ⟨K.toArray⟩, .string ⟨A.toArray⟩, .int .i64 n, .int .u64 u, pv, dv] 26)
  have hg0 := Grow.alloc w (.cells #[.int .u64 id, .int .i64 8, .string ⟨B.toArray⟩, .string ⟨K.toArray⟩, .string ⟨A.toArray⟩, .int .i64 n, .int .u64 u, pv, dv] 26)
  generalize w.alloc (.cells #[.int .u64 id, .int .i64 8, .string ⟨B.toArray⟩, .string ⟨K.toArray⟩, .string ⟨A.toArray⟩, .int .i64 n, .int .u64 u, pv, dv] 26) = W0 at *
  have HG := Lib.hid hg0
  have lb1 : w.heap.size < W0.heap.size := lt_of_getElem? hbk
  clear hg0
  generalize w.heap.size = B1 at *
  have q1 : W0.cell? ⟨B1, 1, none⟩ = some (.int .i64 8) := ck_cell hbk rfl
  have q2 : W0.cell? ⟨B1, 2, none⟩ = some (.string ⟨B.toArray⟩) := ck_cell hbk rfl
  have q3 : W0.cell? ⟨B1, 3, none⟩ = some (.string ⟨K.toArray⟩) := ck_cell hbk rfl
  have q4 : W0.cell? ⟨B1, 4, none⟩ = some (.string ⟨A.toArray⟩) := ck_cell hbk rfl
  have q5 : W0.cell? ⟨B1, 5, none⟩ = some (.int .i64 n) := ck_cell hbk rfl
  have q6 : W0.cell? ⟨B1, 6, none⟩ = some (.int .u64 u) := ck_cell hbk rfl
  have q7 : W0.cell? ⟨B1, 7, none⟩ = some (pv) := ck_cell hbk rfl
  clear hbk
  have hcl := Grow.cells (w := W0)
  go_wp2_with fail
  (with_reducible refine (HE.out _).mono ?_)
  rintro e w1 ⟨rfl, hw1⟩
  go_wp2_with fail
  (with_reducible refine (HX.out _).mono ?_)
  rintro e w2 ⟨rfl, hw2⟩
  have hw02 : Grow W0 w2 := hw1.trans hw2
  go_wp2_with fail
  (with_reducible refine (HD.out _).mono ?_)
  rintro e w3 ⟨rfl, hw3⟩
  have hw03 : Grow W0 w3 := hw02.trans hw3
  go_wp2
  go_ret
  exact ⟨congrArg (fun x : List UInt8 => Ending.returned (.string ⟨x.toArray⟩)) Hc.out, HG.out.trans hw03⟩

set_option maxRecDepth 100000 in
set_option maxHeartbeats 4000000 in
theorem line_9 {w : World} {id u : Nat} {n : Int} {B K A : List UInt8} {pv dv : Value} {l : List Int} (hp : Iv w pv l) (hl : l.length ≤ 30000) (hps : ∀ x ∈ l, 0 ≤ x ∧ x ≤ 2000000000000) (hu : u < 18446744073709551616) (hB : B.length ≤ 100000) (hK : K.length ≤ 100000) :
    Calls Tryz.prog 74 #[.agg #[.int .u64 id, .int .i64 9, .string ⟨B.toArray⟩, .string ⟨K.toArray⟩, .string ⟨A.toArray⟩, .int .i64 n, .int .u64 u, pv, dv]] w fun e w' => e = .returned (.string ⟨(([80, 79, 83, 84, 32] : List UInt8) ++ (([47, 63, 117, 112, 108, 111, 97, 100, 61] : List UInt8) ++ (hex16 u ++ ([38, 112, 97, 114, 116, 115, 61] ++ numsD l)))).toArray⟩) ∧ Grow w w' := by
  have HE : Hid (∀ W, Calls Tryz.prog 16 #[.string ⟨K.toArray⟩] W fun e w' => e = .returned (.string ⟨(esc K).toArray⟩) ∧ Grow W w') := Lib.hid (fun W => escapeR_any ⟨K.toArray⟩ W (by show K.toArray.size ≤ _; simp; omega))
  have HEl := esc_len K
  have HX : Hid (∀ W, Calls Tryz.prog 58 #[.int .u64 u] W fun e w' => e = .returned (.string ⟨(hex16 u).toArray⟩) ∧ Grow W w') := Lib.hid (fun W => hex_any u hu W)
  have hX : (hex16 u).length = 16 := hexF_len 16 u
  have HNu : Hid (∀ W, Grow w W → Calls Tryz.prog 98 #[pv] W fun e w' => e = .returned (.string ⟨(numsD l).toArray⟩) ∧ Grow W w') := Lib.hid (fun W hW => numbers_any (hp.grow hW) (by omega) (fun x hx => by have := hps x hx; omega))
  have hN : (numsD l).length ≤ 420000 := by
    have := numsD_len (l := l) (fun x hx => by have := hps x hx; omega)
    omega
  clear hp hps hl
  obtain ⟨S1, HS1⟩ : ∃ S : List UInt8, Hid (S = ([47] : List UInt8) ++ (B)) := ⟨_, Lib.hid rfl⟩
  have e1 : (⟨#[47]⟩ : ByteArray) ++ ⟨(B).toArray⟩ = ⟨S1.toArray⟩ := by rw [HS1.out]; exact ba_append ([47] : List UInt8) (B)
  have z1 : ¬ (9223372036854775807 < 1 + (B).length) := by omega
  have y1 : S1.length ≤ 100001 := by rw [HS1.out, List.length_append]; (try simp only [List.length_cons, List.length_nil]); omega
  obtain ⟨S2, HS2⟩ : ∃ S : List UInt8, Hid (S = (S1) ++ ([47] : List UInt8)) := ⟨_, Lib.hid rfl⟩
  have e2 : (⟨(S1).toArray⟩ : ByteArray) ++ ⟨#[47]⟩ = ⟨S2.toArray⟩ := by rw [HS2.out]; exact ba_append (S1) ([47] : List UInt8)
  have z2 : ¬ (9223372036854775807 < (S1).length + 1) := by omega
  have y2 : S2.length ≤ 100002 := by rw [HS2.out, List.length_append]; (try simp only [List.length_cons, List.length_nil]); omega
  obtain ⟨S3, HS3⟩ : ∃ S : List UInt8, Hid (S = (S2) ++ (esc K)) := ⟨_, Lib.hid rfl⟩
  have e3 : (⟨(S2).toArray⟩ : ByteArray) ++ ⟨(esc K).toArray⟩ = ⟨S3.toArray⟩ := by rw [HS3.out]; exact ba_append (S2) (esc K)
  have z3 : ¬ (9223372036854775807 < (S2).length + (esc K).length) := by omega
  have y3 : S3.length ≤ 400100 := by rw [HS3.out, List.length_append]; (try simp only [List.length_cons, List.length_nil]); omega
  obtain ⟨S4, HS4⟩ : ∃ S : List UInt8, Hid (S = ([47, 63, 117, 112, 108, 111, 97, 100, 61] : List UInt8) ++ (hex16 u)) := ⟨_, Lib.hid rfl⟩
  have e4 : (⟨#[47, 63, 117, 112, 108, 111, 97, 100, 61]⟩ : ByteArray) ++ ⟨(hex16 u).toArray⟩ = ⟨S4.toArray⟩ := by rw [HS4.out]; exact ba_append ([47, 63, 117, 112, 108, 111, 97, 100, 61] : List UInt8) (hex16 u)
  have z4 : ¬ (9223372036854775807 < 9 + (hex16 u).length) := by omega
  have y4 : S4.length ≤ 25 := by rw [HS4.out, List.length_append]; (try simp only [List.length_cons, List.length_nil]); omega
  obtain ⟨S5, HS5⟩ : ∃ S : List UInt8, Hid (S = ([80, 79, 83, 84, 32] : List UInt8) ++ (S4)) := ⟨_, Lib.hid rfl⟩
  have e5 : (⟨#[80, 79, 83, 84, 32]⟩ : ByteArray) ++ ⟨(S4).toArray⟩ = ⟨S5.toArray⟩ := by rw [HS5.out]; exact ba_append ([80, 79, 83, 84, 32] : List UInt8) (S4)
  have z5 : ¬ (9223372036854775807 < 5 + (S4).length) := by omega
  have y5 : S5.length ≤ 500000 := by rw [HS5.out, List.length_append]; (try simp only [List.length_cons, List.length_nil]); omega
  obtain ⟨S6, HS6⟩ : ∃ S : List UInt8, Hid (S = (S5) ++ ([38, 112, 97, 114, 116, 115, 61] : List UInt8)) := ⟨_, Lib.hid rfl⟩
  have e6 : (⟨(S5).toArray⟩ : ByteArray) ++ ⟨#[38, 112, 97, 114, 116, 115, 61]⟩ = ⟨S6.toArray⟩ := by rw [HS6.out]; exact ba_append (S5) ([38, 112, 97, 114, 116, 115, 61] : List UInt8)
  have z6 : ¬ (9223372036854775807 < (S5).length + 7) := by omega
  have y6 : S6.length ≤ 500010 := by rw [HS6.out, List.length_append]; (try simp only [List.length_cons, List.length_nil]); omega
  obtain ⟨S7, HS7⟩ : ∃ S : List UInt8, Hid (S = (S6) ++ (numsD l)) := ⟨_, Lib.hid rfl⟩
  have e7 : (⟨(S6).toArray⟩ : ByteArray) ++ ⟨(numsD l).toArray⟩ = ⟨S7.toArray⟩ := by rw [HS7.out]; exact ba_append (S6) (numsD l)
  have z7 : ¬ (9223372036854775807 < (S6).length + (numsD l).length) := by omega
  have y7 : S7.length ≤ 1000000 := by rw [HS7.out, List.length_append]; (try simp only [List.length_cons, List.length_nil]); omega
  have Hc : Hid (S7 = ([80, 79, 83, 84, 32] : List UInt8) ++ (([47, 63, 117, 112, 108, 111, 97, 100, 61] : List UInt8) ++ (hex16 u ++ ([38, 112, 97, 114, 116, 115, 61] ++ numsD l)))) := Lib.hid (by rw [HS7.out, HS6.out, HS5.out, HS4.out]; (try simp only [List.append_assoc, List.cons_append, List.nil_append]))
  clear HEl hX y1 y2 y3 y4 y5 y6 y7
  go_enter Tryz.func74, Tryz.ntmps74
  go_upto_region 1 with fail
  have hbk := heap_alloc_new w (.cells #[.int .u64 id, .int .i64 9, .string ⟨B.toArray⟩, .string ⟨K.toArray⟩, .string ⟨A.toArray⟩, .int .i64 n, .int .u64 u, pv, dv] 26)
  have hg0 := Grow.alloc w (.cells #[.int .u64 id, .int .i64 9, .string ⟨B.toArray⟩, .string ⟨K.toArray⟩, .string ⟨A.toArray⟩, .int .i64 n, .int .u64 u, pv, dv] 26)
  generalize w.alloc (.cells #[.int .u64 id, .int .i64 9, .string ⟨B.toArray⟩, .string ⟨K.toArray⟩, .string ⟨A.toArray⟩, .int .i64 n, .int .u64 u, pv, dv] 26) = W0 at *
  have HG := Lib.hid hg0
  have lb1 : w.heap.size < W0.heap.size := lt_of_getElem? hbk
  clear hg0
  generalize w.heap.size = B1 at *
  have q1 : W0.cell? ⟨B1, 1, none⟩ = some (.int .i64 9) := ck_cell hbk rfl
  have q2 : W0.cell? ⟨B1, 2, none⟩ = some (.string ⟨B.toArray⟩) := ck_cell hbk rfl
  have q3 : W0.cell? ⟨B1, 3, none⟩ = some (.string ⟨K.toArray⟩) := ck_cell hbk rfl
  have q4 : W0.cell? ⟨B1, 4, none⟩ = some (.string ⟨A.toArray⟩) := ck_cell hbk rfl
  have q5 : W0.cell? ⟨B1, 5, none⟩ = some (.int .i64 n) := ck_cell hbk rfl
  have q6 : W0.cell? ⟨B1, 6, none⟩ = some (.int .u64 u) := ck_cell hbk rfl
  have q7 : W0.cell? ⟨B1, 7, none⟩ = some (pv) := ck_cell hbk rfl
  clear hbk
  have hcl := Grow.cells (w := W0)
  go_wp2_with fail
  (with_reducible refine (HE.out _).mono ?_)
  rintro e w1 ⟨rfl, hw1⟩
  go_wp2_with fail
  (with_reducible refine (HX.out _).mono ?_)
  rintro e w2 ⟨rfl, hw2⟩
  have hw02 : Grow W0 w2 := hw1.trans hw2
  go_wp2_with fail
  (with_reducible refine (HNu.out _ (HG.out.trans hw02)).mono ?_)
  rintro e w3 ⟨rfl, hw3⟩
  have hw03 : Grow W0 w3 := hw02.trans hw3
  go_wp2
  go_ret
  exact ⟨congrArg (fun x : List UInt8 => Ending.returned (.string ⟨x.toArray⟩)) Hc.out, HG.out.trans hw03⟩

set_option maxRecDepth 100000 in
set_option maxHeartbeats 4000000 in
theorem line_10 {w : World} {id u : Nat} {n : Int} {B K A : List UInt8} {pv dv : Value} (hu : u < 18446744073709551616) (hB : B.length ≤ 100000) (hK : K.length ≤ 100000) :
    Calls Tryz.prog 74 #[.agg #[.int .u64 id, .int .i64 10, .string ⟨B.toArray⟩, .string ⟨K.toArray⟩, .string ⟨A.toArray⟩, .int .i64 n, .int .u64 u, pv, dv]] w fun e w' => e = .returned (.string ⟨(([68, 69, 76, 69, 84, 69, 32] : List UInt8) ++ (([47, 63, 117, 112, 108, 111, 97, 100, 61] : List UInt8) ++ hex16 u)).toArray⟩) ∧ Grow w w' := by
  have HE : Hid (∀ W, Calls Tryz.prog 16 #[.string ⟨K.toArray⟩] W fun e w' => e = .returned (.string ⟨(esc K).toArray⟩) ∧ Grow W w') := Lib.hid (fun W => escapeR_any ⟨K.toArray⟩ W (by show K.toArray.size ≤ _; simp; omega))
  have HEl := esc_len K
  have HX : Hid (∀ W, Calls Tryz.prog 58 #[.int .u64 u] W fun e w' => e = .returned (.string ⟨(hex16 u).toArray⟩) ∧ Grow W w') := Lib.hid (fun W => hex_any u hu W)
  have hX : (hex16 u).length = 16 := hexF_len 16 u
  obtain ⟨S1, HS1⟩ : ∃ S : List UInt8, Hid (S = ([47] : List UInt8) ++ (B)) := ⟨_, Lib.hid rfl⟩
  have e1 : (⟨#[47]⟩ : ByteArray) ++ ⟨(B).toArray⟩ = ⟨S1.toArray⟩ := by rw [HS1.out]; exact ba_append ([47] : List UInt8) (B)
  have z1 : ¬ (9223372036854775807 < 1 + (B).length) := by omega
  have y1 : S1.length ≤ 100001 := by rw [HS1.out, List.length_append]; (try simp only [List.length_cons, List.length_nil]); omega
  obtain ⟨S2, HS2⟩ : ∃ S : List UInt8, Hid (S = (S1) ++ ([47] : List UInt8)) := ⟨_, Lib.hid rfl⟩
  have e2 : (⟨(S1).toArray⟩ : ByteArray) ++ ⟨#[47]⟩ = ⟨S2.toArray⟩ := by rw [HS2.out]; exact ba_append (S1) ([47] : List UInt8)
  have z2 : ¬ (9223372036854775807 < (S1).length + 1) := by omega
  have y2 : S2.length ≤ 100002 := by rw [HS2.out, List.length_append]; (try simp only [List.length_cons, List.length_nil]); omega
  obtain ⟨S3, HS3⟩ : ∃ S : List UInt8, Hid (S = (S2) ++ (esc K)) := ⟨_, Lib.hid rfl⟩
  have e3 : (⟨(S2).toArray⟩ : ByteArray) ++ ⟨(esc K).toArray⟩ = ⟨S3.toArray⟩ := by rw [HS3.out]; exact ba_append (S2) (esc K)
  have z3 : ¬ (9223372036854775807 < (S2).length + (esc K).length) := by omega
  have y3 : S3.length ≤ 400100 := by rw [HS3.out, List.length_append]; (try simp only [List.length_cons, List.length_nil]); omega
  obtain ⟨S4, HS4⟩ : ∃ S : List UInt8, Hid (S = ([47, 63, 117, 112, 108, 111, 97, 100, 61] : List UInt8) ++ (hex16 u)) := ⟨_, Lib.hid rfl⟩
  have e4 : (⟨#[47, 63, 117, 112, 108, 111, 97, 100, 61]⟩ : ByteArray) ++ ⟨(hex16 u).toArray⟩ = ⟨S4.toArray⟩ := by rw [HS4.out]; exact ba_append ([47, 63, 117, 112, 108, 111, 97, 100, 61] : List UInt8) (hex16 u)
  have z4 : ¬ (9223372036854775807 < 9 + (hex16 u).length) := by omega
  have y4 : S4.length ≤ 25 := by rw [HS4.out, List.length_append]; (try simp only [List.length_cons, List.length_nil]); omega
  obtain ⟨S5, HS5⟩ : ∃ S : List UInt8, Hid (S = ([68, 69, 76, 69, 84, 69, 32] : List UInt8) ++ (S4)) := ⟨_, Lib.hid rfl⟩
  have e5 : (⟨#[68, 69, 76, 69, 84, 69, 32]⟩ : ByteArray) ++ ⟨(S4).toArray⟩ = ⟨S5.toArray⟩ := by rw [HS5.out]; exact ba_append ([68, 69, 76, 69, 84, 69, 32] : List UInt8) (S4)
  have z5 : ¬ (9223372036854775807 < 7 + (S4).length) := by omega
  have y5 : S5.length ≤ 500000 := by rw [HS5.out, List.length_append]; (try simp only [List.length_cons, List.length_nil]); omega
  have Hc : Hid (S5 = ([68, 69, 76, 69, 84, 69, 32] : List UInt8) ++ (([47, 63, 117, 112, 108, 111, 97, 100, 61] : List UInt8) ++ hex16 u)) := Lib.hid (by rw [HS5.out, HS4.out]; (try simp only [List.append_assoc, List.cons_append, List.nil_append]))
  clear HEl hX y1 y2 y3 y4 y5
  go_enter Tryz.func74, Tryz.ntmps74
  go_upto_region 1 with fail
  have hbk := heap_alloc_new w (.cells #[.int .u64 id, .int .i64 10, .string ⟨B.toArray⟩, .string ⟨K.toArray⟩, .string ⟨A.toArray⟩, .int .i64 n, .int .u64 u, pv, dv] 26)
  have hg0 := Grow.alloc w (.cells #[.int .u64 id, .int .i64 10, .string ⟨B.toArray⟩, .string ⟨K.toArray⟩, .string ⟨A.toArray⟩, .int .i64 n, .int .u64 u, pv, dv] 26)
  generalize w.alloc (.cells #[.int .u64 id, .int .i64 10, .string ⟨B.toArray⟩, .string ⟨K.toArray⟩, .string ⟨A.toArray⟩, .int .i64 n, .int .u64 u, pv, dv] 26) = W0 at *
  have HG := Lib.hid hg0
  have lb1 : w.heap.size < W0.heap.size := lt_of_getElem? hbk
  clear hg0
  generalize w.heap.size = B1 at *
  have q1 : W0.cell? ⟨B1, 1, none⟩ = some (.int .i64 10) := ck_cell hbk rfl
  have q2 : W0.cell? ⟨B1, 2, none⟩ = some (.string ⟨B.toArray⟩) := ck_cell hbk rfl
  have q3 : W0.cell? ⟨B1, 3, none⟩ = some (.string ⟨K.toArray⟩) := ck_cell hbk rfl
  have q4 : W0.cell? ⟨B1, 4, none⟩ = some (.string ⟨A.toArray⟩) := ck_cell hbk rfl
  have q5 : W0.cell? ⟨B1, 5, none⟩ = some (.int .i64 n) := ck_cell hbk rfl
  have q6 : W0.cell? ⟨B1, 6, none⟩ = some (.int .u64 u) := ck_cell hbk rfl
  have q7 : W0.cell? ⟨B1, 7, none⟩ = some (pv) := ck_cell hbk rfl
  clear hbk
  have hcl := Grow.cells (w := W0)
  go_wp2_with fail
  (with_reducible refine (HE.out _).mono ?_)
  rintro e w1 ⟨rfl, hw1⟩
  go_wp2_with fail
  (with_reducible refine (HX.out _).mono ?_)
  rintro e w2 ⟨rfl, hw2⟩
  have hw02 : Grow W0 w2 := hw1.trans hw2
  go_wp2
  go_ret
  exact ⟨congrArg (fun x : List UInt8 => Ending.returned (.string ⟨x.toArray⟩)) Hc.out, HG.out.trans hw02⟩

end Go.Proofs.YtdegmpimcappjaaGreatDoor
