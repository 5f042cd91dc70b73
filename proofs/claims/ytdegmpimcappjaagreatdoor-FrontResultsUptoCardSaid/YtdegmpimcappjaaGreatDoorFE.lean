/- Merged out of YP, YQ: helpers. -/
import Derived.Test.YtdegmpimcappjaaGreatDoorFD
import Derived.Test.YtdegmpimcappjaaGreatDoorFYI
/- What bounds a right operation has; the program's word for a request's method. -/
namespace Go.Proofs.YtdegmpimcappjaaGreatDoor
open Go.RowKit Go.Gl Go.Front

structure InB (o : OpD) : Prop where
  k1 : 1 ≤ o.kind
  k2 : o.kind ≤ 10
  b : o.bucket.length ≤ 64
  k : o.key.length ≤ 1024
  a : o.after.length ≤ 1024
  n1 : 0 ≤ o.n
  n2 : o.n ≤ 10000
  pl : o.parts.length ≤ 10000
  ps : ∀ x ∈ o.parts, 0 ≤ x ∧ x ≤ 10000
  d : o.data.length ≤ 16777216

theorem nameB_len {s : List UInt8} (h : nameB s = true) : s.length ≤ 64 := by
  unfold nameB at h
  simp at h
  exact h.2
theorem keyB_len {s : List UInt8} (h : keyB s = true) : s.length ≤ 1024 := by
  unfold keyB at h
  simp at h
  exact h.2
theorem rising_in : ∀ (l : List Int) (a : Int), 0 ≤ a → risingF a l = true → ∀ x ∈ l, 0 ≤ x ∧ x ≤ 10000
  | [], _, _, _, x, hx => by cases hx
  | n :: l, a, ha, h, x, hx => by
    unfold risingF at h
    simp only [Bool.and_eq_true, decide_eq_true_eq] at h
    rcases List.mem_cons.1 hx with rfl | hx
    · omega
    · exact rising_in l n (by omega) h.2 x hx

theorem right_in {o : OpD} (h : right o = true) : InB o := by
  obtain ⟨id, kind, bucket, key, after, n, upload, parts, data⟩ := o
  have hk : 1 ≤ kind ∧ kind ≤ 10 := by
    by_cases hk : 1 ≤ kind ∧ kind ≤ 10
    · exact hk
    · unfold right at h
      rw [if_neg (by simp only; omega), if_neg (by simp only; omega), if_neg (by simp only; omega), if_neg (by simp only; omega), if_neg (by simp only; omega), if_neg (by simp only; omega), if_neg (by simp only; omega)] at h
      cases h
  have hp : ∀ {l : List Int}, partsB l = true → l.length ≤ 10000 ∧ ∀ x ∈ l, 0 ≤ x ∧ x ≤ 10000 := fun {l} h => by
    unfold partsB at h
    simp only [Bool.and_eq_true, decide_eq_true_eq] at h
    exact ⟨h.1.2, rising_in l 0 (Int.le_refl _) h.2⟩
  have e : ∀ {α : Type} {l : List α}, l = [] → ∀ k, l.length ≤ k := fun h k => by rw [h]; exact Nat.zero_le _
  have e' : ∀ {l : List Int}, l = [] → ∀ x ∈ l, 0 ≤ x ∧ x ≤ 10000 := fun h x hx => by rw [h] at hx; cases hx
  rcases ck_or hk.1 hk.2 with rfl | rfl | rfl | rfl | rfl | rfl | rfl | rfl | rfl | rfl <;> (
    simp [right] at h)
  · obtain ⟨⟨⟨⟨⟨⟨h1, h2⟩, h3⟩, h4⟩, h5⟩, h6⟩, h7⟩ := h
    exact ⟨by simp, by simp, nameB_len h1, e h2 _, e h3 _, by simp only; omega, by simp only; omega, e h6 _, e' h6, e h7 _⟩
  · obtain ⟨⟨⟨⟨⟨⟨h1, h2⟩, h3⟩, h4⟩, h5⟩, h6⟩, h7⟩ := h
    exact ⟨by simp, by simp, nameB_len h1, e h2 _, e h3 _, by simp only; omega, by simp only; omega, e h6 _, e' h6, e h7 _⟩
  · obtain ⟨⟨⟨⟨⟨⟨h1, h2⟩, h3⟩, h4⟩, h5⟩, h6⟩, h7⟩ := h
    exact ⟨by simp, by simp, nameB_len h1, keyB_len h2, e h3 _, by simp only; omega, by simp only; omega, e h6 _, e' h6, h7⟩
  · obtain ⟨⟨⟨⟨⟨⟨h1, h2⟩, h3⟩, h4⟩, h5⟩, h6⟩, h7⟩ := h
    exact ⟨by simp, by simp, nameB_len h1, keyB_len h2, e h3 _, by simp only; omega, by simp only; omega, e h6 _, e' h6, e h7 _⟩
  · obtain ⟨⟨⟨⟨⟨⟨h1, h2⟩, h3⟩, h4⟩, h5⟩, h6⟩, h7⟩ := h
    exact ⟨by simp, by simp, nameB_len h1, keyB_len h2, e h3 _, by simp only; omega, by simp only; omega, e h6 _, e' h6, e h7 _⟩
  · obtain ⟨⟨⟨⟨⟨⟨⟨h1, h2⟩, h3⟩, h4⟩, h4b⟩, h5⟩, h6⟩, h7⟩ := h
    exact ⟨by simp, by simp, nameB_len h1, h2, h3, by simp only; omega, by simp only; omega, e h6 _, e' h6, e h7 _⟩
  · obtain ⟨⟨⟨⟨⟨⟨h1, h2⟩, h3⟩, h4⟩, h5⟩, h6⟩, h7⟩ := h
    exact ⟨by simp, by simp, nameB_len h1, keyB_len h2, e h3 _, by simp only; omega, by simp only; omega, e h6 _, e' h6, e h7 _⟩
  · obtain ⟨⟨⟨⟨⟨⟨h1, h2⟩, h3⟩, h4⟩, h4b⟩, h6⟩, h7⟩ := h
    exact ⟨by simp, by simp, e h1 _, e h2 _, e h3 _, by simp only; omega, by simp only; omega, e h6 _, e' h6, h7⟩
  · obtain ⟨⟨⟨⟨⟨h1, h2⟩, h3⟩, h4⟩, h6⟩, h7⟩ := h
    exact ⟨by simp, by simp, e h1 _, e h2 _, e h3 _, by simp only; omega, by simp only; omega, (hp h6).1, (hp h6).2, e h7 _⟩
  · obtain ⟨⟨⟨⟨⟨h1, h2⟩, h3⟩, h4⟩, h6⟩, h7⟩ := h
    exact ⟨by simp, by simp, e h1 _, e h2 _, e h3 _, by simp only; omega, by simp only; omega, e h6 _, e' h6, e h7 _⟩

theorem method_1 (w : World) : Calls Tryz.prog 33 #[.int .i64 1] w fun e w' => e = .returned (.string ⟨(methodD 1).toArray⟩) ∧ w' = w := by
  go_enter Tryz.func33, Tryz.ntmps33
  go_wp2
  go_ret
  exact ⟨rfl, rfl⟩
theorem method_2 (w : World) : Calls Tryz.prog 33 #[.int .i64 2] w fun e w' => e = .returned (.string ⟨(methodD 2).toArray⟩) ∧ w' = w := by
  go_enter Tryz.func33, Tryz.ntmps33
  go_wp2
  go_ret
  exact ⟨rfl, rfl⟩
theorem method_3 (w : World) : Calls Tryz.prog 33 #[.int .i64 3] w fun e w' => e = .returned (.string ⟨(methodD 3).toArray⟩) ∧ w' = w := by
  go_enter Tryz.func33, Tryz.ntmps33
  go_wp2
  go_ret
  exact ⟨rfl, rfl⟩
theorem method_4 (w : World) : Calls Tryz.prog 33 #[.int .i64 4] w fun e w' => e = .returned (.string ⟨(methodD 4).toArray⟩) ∧ w' = w := by
  go_enter Tryz.func33, Tryz.ntmps33
  go_wp2
  go_ret
  exact ⟨rfl, rfl⟩
theorem method_5 (w : World) : Calls Tryz.prog 33 #[.int .i64 5] w fun e w' => e = .returned (.string ⟨(methodD 5).toArray⟩) ∧ w' = w := by
  go_enter Tryz.func33, Tryz.ntmps33
  go_wp2
  go_ret
  exact ⟨rfl, rfl⟩
theorem method_6 (w : World) : Calls Tryz.prog 33 #[.int .i64 6] w fun e w' => e = .returned (.string ⟨(methodD 6).toArray⟩) ∧ w' = w := by
  go_enter Tryz.func33, Tryz.ntmps33
  go_wp2
  go_ret
  exact ⟨rfl, rfl⟩
theorem method_7 (w : World) : Calls Tryz.prog 33 #[.int .i64 7] w fun e w' => e = .returned (.string ⟨(methodD 7).toArray⟩) ∧ w' = w := by
  go_enter Tryz.func33, Tryz.ntmps33
  go_wp2
  go_ret
  exact ⟨rfl, rfl⟩
theorem method_8 (w : World) : Calls Tryz.prog 33 #[.int .i64 8] w fun e w' => e = .returned (.string ⟨(methodD 8).toArray⟩) ∧ w' = w := by
  go_enter Tryz.func33, Tryz.ntmps33
  go_wp2
  go_ret
  exact ⟨rfl, rfl⟩
theorem method_9 (w : World) : Calls Tryz.prog 33 #[.int .i64 9] w fun e w' => e = .returned (.string ⟨(methodD 9).toArray⟩) ∧ w' = w := by
  go_enter Tryz.func33, Tryz.ntmps33
  go_wp2
  go_ret
  exact ⟨rfl, rfl⟩
theorem method_10 (w : World) : Calls Tryz.prog 33 #[.int .i64 10] w fun e w' => e = .returned (.string ⟨(methodD 10).toArray⟩) ∧ w' = w := by
  go_enter Tryz.func33, Tryz.ntmps33
  go_wp2
  go_ret
  exact ⟨rfl, rfl⟩
theorem method_any {k : Int} (h1 : 1 ≤ k) (h2 : k ≤ 10) (w : World) : Calls Tryz.prog 33 #[.int .i64 k] w fun e w' => e = .returned (.string ⟨(methodD k).toArray⟩) ∧ w' = w := by
  rcases ck_or h1 h2 with rfl | rfl | rfl | rfl | rfl | rfl | rfl | rfl | rfl | rfl
  · exact method_1 w
  · exact method_2 w
  · exact method_3 w
  · exact method_4 w
  · exact method_5 w
  · exact method_6 w
  · exact method_7 w
  · exact method_8 w
  · exact method_9 w
  · exact method_10 w
end Go.Proofs.YtdegmpimcappjaaGreatDoor

/- The program's target of a request. -/
namespace Go.Proofs.YtdegmpimcappjaaGreatDoor
open Go.RowKit Go.Gl Go.Front

set_option profiler true in
set_option profiler.threshold 3000 in
set_option maxRecDepth 100000 in
set_option maxHeartbeats 4000000 in
theorem target_obj {w : World} {id u : Nat} {k n : Int} {B K A : List UInt8} {pv dv : Value} (f1 : (k == 1) = false) (f2 : (k == 2) = false) (f6 : (k == 6) = false) (f8 : (k == 8) = false) (f9 : (k == 9) = false) (f10 : (k == 10) = false) (hB : B.length ≤ 64) (hK : K.length ≤ 1024) :
    Calls Tryz.prog 34 #[.agg #[.int .u64 id, .int .i64 k, .string ⟨B.toArray⟩, .string ⟨K.toArray⟩, .string ⟨A.toArray⟩, .int .i64 n, .int .u64 u, pv, dv]] w fun e w' => e = .returned (.string ⟨(47 :: (B ++ (47 :: esc K))).toArray⟩) ∧ Grow w w' := by
  have HE : Hid (∀ W, Calls Tryz.prog 15 #[.string ⟨K.toArray⟩] W fun e w' => e = .returned (.string ⟨(esc K).toArray⟩) ∧ Grow W w') := Lib.hid (fun W => escape_any ⟨K.toArray⟩ W (by show K.toArray.size ≤ _; simp; omega))
  have HEl := esc_len K
  go_enter Tryz.func34, Tryz.ntmps34
  go_upto_region 19 with fail
  have hbk := heap_alloc_new w (.cells #[.int .u64 id, .int .i64 k, .string ⟨B.toArray⟩, .string ⟨K.toArray⟩, .string ⟨A.toArray⟩, .int .i64 n, .int .u64 u, pv, dv] 26)
  have hg0 := Grow.alloc w (.cells #[.int .u64 id, .int .i64 k, .string ⟨B.toArray⟩, .string ⟨K.toArray⟩, .string ⟨A.toArray⟩, .int .i64 n, .int .u64 u, pv, dv] 26)
  generalize w.alloc (.cells #[.int .u64 id, .int .i64 k, .string ⟨B.toArray⟩, .string ⟨K.toArray⟩, .string ⟨A.toArray⟩, .int .i64 n, .int .u64 u, pv, dv] 26) = W0 at *
  have HG := Lib.hid hg0
  have lb1 : w.heap.size < W0.heap.size := lt_of_getElem? hbk
  clear hg0
  generalize w.heap.size = B1 at *
  have q2 : W0.cell? ⟨B1, 2, none⟩ = some (.string ⟨B.toArray⟩) := ck_cell hbk rfl
  have q3 : W0.cell? ⟨B1, 3, none⟩ = some (.string ⟨K.toArray⟩) := ck_cell hbk rfl
  clear hbk
  have hcl := Grow.cells (w := W0)
  go_wp2_with fail
  refine wp_region_fix (fun W => Grow W0 W) (by kernel_rfl) (by kernel_rfl) (by kernel_rfl) (Grow.drew W0) ?_
  repeat (first | (refine wpFix_quiet (by rfl) (fun W hW => exec_addS rfl rfl rfl (by (try simp only [List.length_append, List.length_cons, List.length_nil]); omega)) ?_; (try simp only [Act.put, List.setIfInBounds_toArray, List.set_cons_zero, List.set_cons_succ])) | (first | (refine wpFix_quiet (v := ?_) (by rfl) (fun W hW => ?_) ?_; rotate_left; (obtain hW := hW; go_simp; with_reducible rfl); (try simp only [Act.put, List.setIfInBounds_toArray, List.set_cons_zero, List.set_cons_succ])) | (refine wpFix_off (by rfl) ?_; (try simp only [Act.put, List.setIfInBounds_toArray, List.set_cons_zero, List.set_cons_succ]))))
  refine wpFix_call (by rfl) (fun W => by go_simp) (fun W hW => (HE.out W).mono (fun e W' h => ⟨h.1, Grow.trans hW h.2⟩)) ?_
  try try simp only [Act.put, List.setIfInBounds_toArray, List.set_cons_zero, List.set_cons_succ]
  repeat (first | (refine wpFix_quiet (by rfl) (fun W hW => exec_addS rfl rfl rfl (by (try simp only [List.length_append, List.length_cons, List.length_nil]); omega)) ?_; (try simp only [Act.put, List.setIfInBounds_toArray, List.set_cons_zero, List.set_cons_succ])) | (first | (refine wpFix_quiet (v := ?_) (by rfl) (fun W hW => ?_) ?_; rotate_left; (obtain hW := hW; go_simp; with_reducible rfl); (try simp only [Act.put, List.setIfInBounds_toArray, List.set_cons_zero, List.set_cons_succ])) | (refine wpFix_off (by rfl) ?_; (try simp only [Act.put, List.setIfInBounds_toArray, List.set_cons_zero, List.set_cons_succ]))))
  refine wpFix_nil (fun W hW => ?_)
  clear hcl
  go_wp2
  go_ret
  exact ⟨rfl, HG.out.trans hW⟩

set_option profiler true in
set_option profiler.threshold 3000 in
set_option maxRecDepth 100000 in
set_option maxHeartbeats 4000000 in
theorem target_list {w : World} {id u : Nat} {n : Int} {B K A : List UInt8} {pv dv : Value} (hb : Base w) (hB : B.length ≤ 64) (hK : K.length ≤ 1024) (hA : A.length ≤ 1024) (h0 : 0 ≤ n) (h1 : n ≤ 10000) :
    Calls Tryz.prog 34 #[.agg #[.int .u64 id, .int .i64 6, .string ⟨B.toArray⟩, .string ⟨K.toArray⟩, .string ⟨A.toArray⟩, .int .i64 n, .int .u64 u, pv, dv]] w fun e w' => e = .returned (.string ⟨(47 :: (B ++ ([63, 112, 114, 101, 102, 105, 120, 61] ++ (esc K ++ ([38, 97, 102, 116, 101, 114, 61] ++ (esc A ++ ([38, 110, 61] ++ decF n.toNat))))))).toArray⟩) ∧ Grow w w' := by
  have HE : Hid (∀ W, Calls Tryz.prog 15 #[.string ⟨K.toArray⟩] W fun e w' => e = .returned (.string ⟨(esc K).toArray⟩) ∧ Grow W w') := Lib.hid (fun W => escape_any ⟨K.toArray⟩ W (by show K.toArray.size ≤ _; simp; omega))
  have HEl := esc_len K
  have HF : Hid (∀ W, Calls Tryz.prog 15 #[.string ⟨A.toArray⟩] W fun e w' => e = .returned (.string ⟨(esc A).toArray⟩) ∧ Grow W w') := Lib.hid (fun W => escape_any ⟨A.toArray⟩ W (by show A.toArray.size ≤ _; simp; omega))
  have HFl := esc_len A
  have Hb := Lib.hid hb
  have hN : (decF n.toNat).length ≤ 6 := decF_len 5 _ (by omega)
  have HI : Hid (∀ W, Base W → Calls Tryz.prog 36 #[.int .i64 n] W fun e w' => e = .returned (.string ⟨(decF n.toNat).toArray⟩) ∧ Grow W w') := Lib.hid (fun W hW => itoa_any h0 (by omega) hW)
  clear hb
  go_enter Tryz.func34, Tryz.ntmps34
  go_upto_region 6 with fail
  have hbk := heap_alloc_new w (.cells #[.int .u64 id, .int .i64 6, .string ⟨B.toArray⟩, .string ⟨K.toArray⟩, .string ⟨A.toArray⟩, .int .i64 n, .int .u64 u, pv, dv] 26)
  have hg0 := Grow.alloc w (.cells #[.int .u64 id, .int .i64 6, .string ⟨B.toArray⟩, .string ⟨K.toArray⟩, .string ⟨A.toArray⟩, .int .i64 n, .int .u64 u, pv, dv] 26)
  generalize w.alloc (.cells #[.int .u64 id, .int .i64 6, .string ⟨B.toArray⟩, .string ⟨K.toArray⟩, .string ⟨A.toArray⟩, .int .i64 n, .int .u64 u, pv, dv] 26) = W0 at *
  have HG := Lib.hid hg0
  have lb1 : w.heap.size < W0.heap.size := lt_of_getElem? hbk
  clear hg0
  generalize w.heap.size = B1 at *
  have q2 : W0.cell? ⟨B1, 2, none⟩ = some (.string ⟨B.toArray⟩) := ck_cell hbk rfl
  have q3 : W0.cell? ⟨B1, 3, none⟩ = some (.string ⟨K.toArray⟩) := ck_cell hbk rfl
  have q4 : W0.cell? ⟨B1, 4, none⟩ = some (.string ⟨A.toArray⟩) := ck_cell hbk rfl
  have q5 : W0.cell? ⟨B1, 5, none⟩ = some (.int .i64 n) := ck_cell hbk rfl
  clear hbk
  have hcl := Grow.cells (w := W0)
  go_wp2_with fail
  refine wp_region_fix (fun W => Grow W0 W) (by kernel_rfl) (by kernel_rfl) (by kernel_rfl) (Grow.drew W0) ?_
  repeat (first | (refine wpFix_quiet (by rfl) (fun W hW => exec_addS rfl rfl rfl (by (try simp only [List.length_append, List.length_cons, List.length_nil]); omega)) ?_; (try simp only [Act.put, List.setIfInBounds_toArray, List.set_cons_zero, List.set_cons_succ])) | (first | (refine wpFix_quiet (v := ?_) (by rfl) (fun W hW => ?_) ?_; rotate_left; (obtain hW := hW; go_simp; with_reducible rfl); (try simp only [Act.put, List.setIfInBounds_toArray, List.set_cons_zero, List.set_cons_succ])) | (refine wpFix_off (by rfl) ?_; (try simp only [Act.put, List.setIfInBounds_toArray, List.set_cons_zero, List.set_cons_succ]))))
  refine wpFix_call (by rfl) (fun W => by go_simp) (fun W hW => (HE.out W).mono (fun e W' h => ⟨h.1, Grow.trans hW h.2⟩)) ?_
  try try simp only [Act.put, List.setIfInBounds_toArray, List.set_cons_zero, List.set_cons_succ]
  repeat (first | (refine wpFix_quiet (by rfl) (fun W hW => exec_addS rfl rfl rfl (by (try simp only [List.length_append, List.length_cons, List.length_nil]); omega)) ?_; (try simp only [Act.put, List.setIfInBounds_toArray, List.set_cons_zero, List.set_cons_succ])) | (first | (refine wpFix_quiet (v := ?_) (by rfl) (fun W hW => ?_) ?_; rotate_left; (obtain hW := hW; go_simp; with_reducible rfl); (try simp only [Act.put, List.setIfInBounds_toArray, List.set_cons_zero, List.set_cons_succ])) | (refine wpFix_off (by rfl) ?_; (try simp only [Act.put, List.setIfInBounds_toArray, List.set_cons_zero, List.set_cons_succ]))))
  refine wpFix_call (by rfl) (fun W => by go_simp) (fun W hW => (HF.out W).mono (fun e W' h => ⟨h.1, Grow.trans hW h.2⟩)) ?_
  try try simp only [Act.put, List.setIfInBounds_toArray, List.set_cons_zero, List.set_cons_succ]
  repeat (first | (refine wpFix_quiet (by rfl) (fun W hW => exec_addS rfl rfl rfl (by (try simp only [List.length_append, List.length_cons, List.length_nil]); omega)) ?_; (try simp only [Act.put, List.setIfInBounds_toArray, List.set_cons_zero, List.set_cons_succ])) | (first | (refine wpFix_quiet (v := ?_) (by rfl) (fun W hW => ?_) ?_; rotate_left; (obtain hW := hW; go_simp; with_reducible rfl); (try simp only [Act.put, List.setIfInBounds_toArray, List.set_cons_zero, List.set_cons_succ])) | (refine wpFix_off (by rfl) ?_; (try simp only [Act.put, List.setIfInBounds_toArray, List.set_cons_zero, List.set_cons_succ]))))
  refine wpFix_call (by rfl) (fun W => by go_simp) (fun W hW => (HI.out W (Hb.out.grow (HG.out.trans hW))).mono (fun e W' h => ⟨h.1, Grow.trans hW h.2⟩)) ?_
  try try simp only [Act.put, List.setIfInBounds_toArray, List.set_cons_zero, List.set_cons_succ]
  repeat (first | (refine wpFix_quiet (by rfl) (fun W hW => exec_addS rfl rfl rfl (by (try simp only [List.length_append, List.length_cons, List.length_nil]); omega)) ?_; (try simp only [Act.put, List.setIfInBounds_toArray, List.set_cons_zero, List.set_cons_succ])) | (first | (refine wpFix_quiet (v := ?_) (by rfl) (fun W hW => ?_) ?_; rotate_left; (obtain hW := hW; go_simp; with_reducible rfl); (try simp only [Act.put, List.setIfInBounds_toArray, List.set_cons_zero, List.set_cons_succ])) | (refine wpFix_off (by rfl) ?_; (try simp only [Act.put, List.setIfInBounds_toArray, List.set_cons_zero, List.set_cons_succ]))))
  refine wpFix_nil (fun W hW => ?_)
  clear hcl
  go_wp2
  go_ret
  exact ⟨rfl, HG.out.trans hW⟩

set_option profiler true in
set_option profiler.threshold 3000 in
set_option maxRecDepth 100000 in
set_option maxHeartbeats 4000000 in
theorem target_part {w : World} {id u : Nat} {n : Int} {B K A : List UInt8} {pv dv : Value} (hb : Base w) (hu : u < 18446744073709551616) (h0 : 0 ≤ n) (h1 : n ≤ 10000) :
    Calls Tryz.prog 34 #[.agg #[.int .u64 id, .int .i64 8, .string ⟨B.toArray⟩, .string ⟨K.toArray⟩, .string ⟨A.toArray⟩, .int .i64 n, .int .u64 u, pv, dv]] w fun e w' => e = .returned (.string ⟨([47, 63, 117, 112, 108, 111, 97, 100, 61] ++ (hex16 u ++ ([38, 112, 97, 114, 116, 61] ++ decF n.toNat))).toArray⟩) ∧ Grow w w' := by
  have HS : Hid (∀ W, Base W → Calls Tryz.prog 35 #[.int .u64 u] W fun e w' => e = .returned (.string ⟨(hex16 u).toArray⟩) ∧ Grow W w') := Lib.hid (fun W hW => sixteen_any hW u hu)
  have hX : (hex16 u).length = 16 := hexF_len 16 u
  have Hb := Lib.hid hb
  have hN : (decF n.toNat).length ≤ 6 := decF_len 5 _ (by omega)
  have HI : Hid (∀ W, Base W → Calls Tryz.prog 36 #[.int .i64 n] W fun e w' => e = .returned (.string ⟨(decF n.toNat).toArray⟩) ∧ Grow W w') := Lib.hid (fun W hW => itoa_any h0 (by omega) hW)
  clear hb
  go_enter Tryz.func34, Tryz.ntmps34
  go_upto_region 8 with fail
  have hbk := heap_alloc_new w (.cells #[.int .u64 id, .int .i64 8, .string ⟨B.toArray⟩, .string ⟨K.toArray⟩, .string ⟨A.toArray⟩, .int .i64 n, .int .u64 u, pv, dv] 26)
  have hg0 := Grow.alloc w (.cells #[.int .u64 id, .int .i64 8, .string ⟨B.toArray⟩, .string ⟨K.toArray⟩, .string ⟨A.toArray⟩, .int .i64 n, .int .u64 u, pv, dv] 26)
  generalize w.alloc (.cells #[.int .u64 id, .int .i64 8, .string ⟨B.toArray⟩, .string ⟨K.toArray⟩, .string ⟨A.toArray⟩, .int .i64 n, .int .u64 u, pv, dv] 26) = W0 at *
  have HG := Lib.hid hg0
  have lb1 : w.heap.size < W0.heap.size := lt_of_getElem? hbk
  clear hg0
  generalize w.heap.size = B1 at *
  have q5 : W0.cell? ⟨B1, 5, none⟩ = some (.int .i64 n) := ck_cell hbk rfl
  have q6 : W0.cell? ⟨B1, 6, none⟩ = some (.int .u64 u) := ck_cell hbk rfl
  clear hbk
  have hcl := Grow.cells (w := W0)
  go_wp2_with fail
  refine wp_region_fix (fun W => Grow W0 W) (by kernel_rfl) (by kernel_rfl) (by kernel_rfl) (Grow.drew W0) ?_
  repeat (first | (refine wpFix_quiet (by rfl) (fun W hW => exec_addS rfl rfl rfl (by (try simp only [List.length_append, List.length_cons, List.length_nil]); omega)) ?_; (try simp only [Act.put, List.setIfInBounds_toArray, List.set_cons_zero, List.set_cons_succ])) | (first | (refine wpFix_quiet (v := ?_) (by rfl) (fun W hW => ?_) ?_; rotate_left; (obtain hW := hW; go_simp; with_reducible rfl); (try simp only [Act.put, List.setIfInBounds_toArray, List.set_cons_zero, List.set_cons_succ])) | (refine wpFix_off (by rfl) ?_; (try simp only [Act.put, List.setIfInBounds_toArray, List.set_cons_zero, List.set_cons_succ]))))
  refine wpFix_call (by rfl) (fun W => by go_simp) (fun W hW => (HS.out W (Hb.out.grow (HG.out.trans hW))).mono (fun e W' h => ⟨h.1, Grow.trans hW h.2⟩)) ?_
  try try simp only [Act.put, List.setIfInBounds_toArray, List.set_cons_zero, List.set_cons_succ]
  repeat (first | (refine wpFix_quiet (by rfl) (fun W hW => exec_addS rfl rfl rfl (by (try simp only [List.length_append, List.length_cons, List.length_nil]); omega)) ?_; (try simp only [Act.put, List.setIfInBounds_toArray, List.set_cons_zero, List.set_cons_succ])) | (first | (refine wpFix_quiet (v := ?_) (by rfl) (fun W hW => ?_) ?_; rotate_left; (obtain hW := hW; go_simp; with_reducible rfl); (try simp only [Act.put, List.setIfInBounds_toArray, List.set_cons_zero, List.set_cons_succ])) | (refine wpFix_off (by rfl) ?_; (try simp only [Act.put, List.setIfInBounds_toArray, List.set_cons_zero, List.set_cons_succ]))))
  refine wpFix_call (by rfl) (fun W => by go_simp) (fun W hW => (HI.out W (Hb.out.grow (HG.out.trans hW))).mono (fun e W' h => ⟨h.1, Grow.trans hW h.2⟩)) ?_
  try try simp only [Act.put, List.setIfInBounds_toArray, List.set_cons_zero, List.set_cons_succ]
  repeat (first | (refine wpFix_quiet (by rfl) (fun W hW => exec_addS rfl rfl rfl (by (try simp only [List.length_append, List.length_cons, List.length_nil]); omega)) ?_; (try simp only [Act.put, List.setIfInBounds_toArray, List.set_cons_zero, List.set_cons_succ])) | (first | (refine wpFix_quiet (v := ?_) (by rfl) (fun W hW => ?_) ?_; rotate_left; (obtain hW := hW; go_simp; with_reducible rfl); (try simp only [Act.put, List.setIfInBounds_toArray, List.set_cons_zero, List.set_cons_succ])) | (refine wpFix_off (by rfl) ?_; (try simp only [Act.put, List.setIfInBounds_toArray, List.set_cons_zero, List.set_cons_succ]))))
  refine wpFix_nil (fun W hW => ?_)
  clear hcl
  go_wp2
  go_ret
  exact ⟨rfl, HG.out.trans hW⟩

set_option profiler true in
set_option profiler.threshold 3000 in
set_option maxRecDepth 100000 in
set_option maxHeartbeats 4000000 in
theorem target_drop {w : World} {id u : Nat} {n : Int} {B K A : List UInt8} {pv dv : Value} (hb : Base w) (hu : u < 18446744073709551616) :
    Calls Tryz.prog 34 #[.agg #[.int .u64 id, .int .i64 10, .string ⟨B.toArray⟩, .string ⟨K.toArray⟩, .string ⟨A.toArray⟩, .int .i64 n, .int .u64 u, pv, dv]] w fun e w' => e = .returned (.string ⟨([47, 63, 117, 112, 108, 111, 97, 100, 61] ++ (hex16 u ++ [])).toArray⟩) ∧ Grow w w' := by
  have HS : Hid (∀ W, Base W → Calls Tryz.prog 35 #[.int .u64 u] W fun e w' => e = .returned (.string ⟨(hex16 u).toArray⟩) ∧ Grow W w') := Lib.hid (fun W hW => sixteen_any hW u hu)
  have hX : (hex16 u).length = 16 := hexF_len 16 u
  have Hb := Lib.hid hb
  have Hc : Hid ((⟨#[47, 63, 117, 112, 108, 111, 97, 100, 61]⟩ : ByteArray) ++ ⟨(hex16 u).toArray⟩ = ⟨([47, 63, 117, 112, 108, 111, 97, 100, 61] ++ (hex16 u ++ [])).toArray⟩) := Lib.hid (by rw [List.append_nil]; exact ba_append [47, 63, 117, 112, 108, 111, 97, 100, 61] (hex16 u))
  clear hb
  go_enter Tryz.func34, Tryz.ntmps34
  go_upto_region 18 with fail
  have hbk := heap_alloc_new w (.cells #[.int .u64 id, .int .i64 10, .string ⟨B.toArray⟩, .string ⟨K.toArray⟩, .string ⟨A.toArray⟩, .int .i64 n, .int .u64 u, pv, dv] 26)
  have hg0 := Grow.alloc w (.cells #[.int .u64 id, .int .i64 10, .string ⟨B.toArray⟩, .string ⟨K.toArray⟩, .string ⟨A.toArray⟩, .int .i64 n, .int .u64 u, pv, dv] 26)
  generalize w.alloc (.cells #[.int .u64 id, .int .i64 10, .string ⟨B.toArray⟩, .string ⟨K.toArray⟩, .string ⟨A.toArray⟩, .int .i64 n, .int .u64 u, pv, dv] 26) = W0 at *
  have HG := Lib.hid hg0
  have lb1 : w.heap.size < W0.heap.size := lt_of_getElem? hbk
  clear hg0
  generalize w.heap.size = B1 at *
  have q6 : W0.cell? ⟨B1, 6, none⟩ = some (.int .u64 u) := ck_cell hbk rfl
  clear hbk
  have hcl := Grow.cells (w := W0)
  go_wp2_with fail
  (with_reducible refine (HS.out _ (Hb.out.grow (HG.out.trans (by (repeat (first | exact Below.refl _ _ | assumption | refine Below.drew ?_ | refine bDrewN ?_ | refine Below.setCell ?_ (by first | omega | (simp <;> omega)) _ | refine Below.alloc ?_ (by first | omega | (simp <;> omega)) _)))))).mono ?_)
  rintro e w9 ⟨rfl, hw9⟩
  clear hcl
  go_wp2
  go_ret
  exact ⟨congrArg (fun x => Ending.returned (.string x)) Hc.out, HG.out.trans hw9⟩

set_option profiler true in
set_option profiler.threshold 3000 in
set_option maxRecDepth 100000 in
set_option maxHeartbeats 4000000 in
theorem target_bucket1 {w : World} {id u : Nat} {n : Int} {B K A : List UInt8} {pv dv : Value} (hB : B.length ≤ 64) :
    Calls Tryz.prog 34 #[.agg #[.int .u64 id, .int .i64 1, .string ⟨B.toArray⟩, .string ⟨K.toArray⟩, .string ⟨A.toArray⟩, .int .i64 n, .int .u64 u, pv, dv]] w fun e w' => e = .returned (.string ⟨(47 :: B).toArray⟩) ∧ Grow w w' := by
  have Hc : Hid ((⟨#[47]⟩ : ByteArray) ++ ⟨B.toArray⟩ = ⟨(47 :: B).toArray⟩) := Lib.hid (ba_append [47] B)
  have hsz : ¬ (9223372036854775807 < 1 + B.length) := by omega
  clear hB
  go_enter Tryz.func34, Tryz.ntmps34
  go_wp2
  go_ret
  exact ⟨congrArg (fun x => Ending.returned (.string x)) Hc.out, by (repeat (first | exact Below.refl _ _ | assumption | refine Below.drew ?_ | refine bDrewN ?_ | refine Below.setCell ?_ (by first | omega | (simp <;> omega)) _ | refine Below.alloc ?_ (by first | omega | (simp <;> omega)) _))⟩

set_option profiler true in
set_option profiler.threshold 3000 in
set_option maxRecDepth 100000 in
set_option maxHeartbeats 4000000 in
theorem target_bucket2 {w : World} {id u : Nat} {n : Int} {B K A : List UInt8} {pv dv : Value} (hB : B.length ≤ 64) :
    Calls Tryz.prog 34 #[.agg #[.int .u64 id, .int .i64 2, .string ⟨B.toArray⟩, .string ⟨K.toArray⟩, .string ⟨A.toArray⟩, .int .i64 n, .int .u64 u, pv, dv]] w fun e w' => e = .returned (.string ⟨(47 :: B).toArray⟩) ∧ Grow w w' := by
  have Hc : Hid ((⟨#[47]⟩ : ByteArray) ++ ⟨B.toArray⟩ = ⟨(47 :: B).toArray⟩) := Lib.hid (ba_append [47] B)
  have hsz : ¬ (9223372036854775807 < 1 + B.length) := by omega
  clear hB
  go_enter Tryz.func34, Tryz.ntmps34
  go_wp2
  go_ret
  exact ⟨congrArg (fun x => Ending.returned (.string x)) Hc.out, by (repeat (first | exact Below.refl _ _ | assumption | refine Below.drew ?_ | refine bDrewN ?_ | refine Below.setCell ?_ (by first | omega | (simp <;> omega)) _ | refine Below.alloc ?_ (by first | omega | (simp <;> omega)) _))⟩

end Go.Proofs.YtdegmpimcappjaaGreatDoor
