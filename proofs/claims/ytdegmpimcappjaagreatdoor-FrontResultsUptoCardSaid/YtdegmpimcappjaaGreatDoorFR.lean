/- Merged out of R1, R2: helpers. -/
import Derived.Test.YtdegmpimcappjaaGreatDoorFD
import Derived.Test.YtdegmpimcappjaaGreatDoorFB
import Derived.Test.YtdegmpimcappjaaGreatDoorFYR
/- The statuses; the fields of a response. -/
namespace Go.Proofs.YtdegmpimcappjaaGreatDoor
open Go.RowKit Go.Gl Go.Front

set_option maxRecDepth 100000 in
theorem known_any (n : Int) (w : World) : Calls Tryz.prog 59 #[.int .i64 n] w fun e w' => e = .returned (.bool (knownB n)) ∧ w' = w := by
  by_cases h200 : n = 200
  · subst h200
    go_enter Tryz.func59, Tryz.ntmps59
    go_wp2
    go_ret
    exact ⟨rfl, rfl⟩
  by_cases h400 : n = 400
  · subst h400
    go_enter Tryz.func59, Tryz.ntmps59
    go_wp2
    go_ret
    exact ⟨rfl, rfl⟩
  by_cases h404 : n = 404
  · subst h404
    go_enter Tryz.func59, Tryz.ntmps59
    go_wp2
    go_ret
    exact ⟨rfl, rfl⟩
  by_cases h408 : n = 408
  · subst h408
    go_enter Tryz.func59, Tryz.ntmps59
    go_wp2
    go_ret
    exact ⟨rfl, rfl⟩
  by_cases h409 : n = 409
  · subst h409
    go_enter Tryz.func59, Tryz.ntmps59
    go_wp2
    go_ret
    exact ⟨rfl, rfl⟩
  by_cases h413 : n = 413
  · subst h413
    go_enter Tryz.func59, Tryz.ntmps59
    go_wp2
    go_ret
    exact ⟨rfl, rfl⟩
  by_cases h410 : n = 410
  · subst h410
    go_enter Tryz.func59, Tryz.ntmps59
    go_wp2
    go_ret
    exact ⟨rfl, rfl⟩
  by_cases h503 : n = 503
  · subst h503
    go_enter Tryz.func59, Tryz.ntmps59
    go_wp2
    go_ret
    exact ⟨rfl, rfl⟩
  by_cases h507 : n = 507
  · subst h507
    go_enter Tryz.func59, Tryz.ntmps59
    go_wp2
    go_ret
    exact ⟨rfl, rfl⟩
  have hk : knownB n = false := by unfold knownB; simp; omega
  have f200 : (n == 200) = false := by rw [beq_eq_false_iff_ne]; exact h200
  have f400 : (n == 400) = false := by rw [beq_eq_false_iff_ne]; exact h400
  have f404 : (n == 404) = false := by rw [beq_eq_false_iff_ne]; exact h404
  have f408 : (n == 408) = false := by rw [beq_eq_false_iff_ne]; exact h408
  have f409 : (n == 409) = false := by rw [beq_eq_false_iff_ne]; exact h409
  have f413 : (n == 413) = false := by rw [beq_eq_false_iff_ne]; exact h413
  have f410 : (n == 410) = false := by rw [beq_eq_false_iff_ne]; exact h410
  have f503 : (n == 503) = false := by rw [beq_eq_false_iff_ne]; exact h503
  have f507 : (n == 507) = false := by rw [beq_eq_false_iff_ne]; exact h507
  have HK := Lib.hid hk
  clear hk h200 h400 h404 h408 h409 h413 h410 h503 h507
  go_enter Tryz.func59, Tryz.ntmps59
  go_wp2
  go_ret
  exact ⟨by rw [HK.out]; rfl, rfl⟩

set_option maxRecDepth 100000 in
theorem knownR_any (n : Int) (w : World) : Calls Tryz.prog 60 #[.int .i64 n] w fun e w' => e = .returned (.bool (knownB n)) ∧ w' = w := by
  by_cases h200 : n = 200
  · subst h200
    go_enter Tryz.func60, Tryz.ntmps60
    go_wp2
    go_ret
    exact ⟨rfl, rfl⟩
  by_cases h400 : n = 400
  · subst h400
    go_enter Tryz.func60, Tryz.ntmps60
    go_wp2
    go_ret
    exact ⟨rfl, rfl⟩
  by_cases h404 : n = 404
  · subst h404
    go_enter Tryz.func60, Tryz.ntmps60
    go_wp2
    go_ret
    exact ⟨rfl, rfl⟩
  by_cases h408 : n = 408
  · subst h408
    go_enter Tryz.func60, Tryz.ntmps60
    go_wp2
    go_ret
    exact ⟨rfl, rfl⟩
  by_cases h409 : n = 409
  · subst h409
    go_enter Tryz.func60, Tryz.ntmps60
    go_wp2
    go_ret
    exact ⟨rfl, rfl⟩
  by_cases h413 : n = 413
  · subst h413
    go_enter Tryz.func60, Tryz.ntmps60
    go_wp2
    go_ret
    exact ⟨rfl, rfl⟩
  by_cases h410 : n = 410
  · subst h410
    go_enter Tryz.func60, Tryz.ntmps60
    go_wp2
    go_ret
    exact ⟨rfl, rfl⟩
  by_cases h503 : n = 503
  · subst h503
    go_enter Tryz.func60, Tryz.ntmps60
    go_wp2
    go_ret
    exact ⟨rfl, rfl⟩
  by_cases h507 : n = 507
  · subst h507
    go_enter Tryz.func60, Tryz.ntmps60
    go_wp2
    go_ret
    exact ⟨rfl, rfl⟩
  have hk : knownB n = false := by unfold knownB; simp; omega
  have f200 : (n == 200) = false := by rw [beq_eq_false_iff_ne]; exact h200
  have f400 : (n == 400) = false := by rw [beq_eq_false_iff_ne]; exact h400
  have f404 : (n == 404) = false := by rw [beq_eq_false_iff_ne]; exact h404
  have f408 : (n == 408) = false := by rw [beq_eq_false_iff_ne]; exact h408
  have f409 : (n == 409) = false := by rw [beq_eq_false_iff_ne]; exact h409
  have f413 : (n == 413) = false := by rw [beq_eq_false_iff_ne]; exact h413
  have f410 : (n == 410) = false := by rw [beq_eq_false_iff_ne]; exact h410
  have f503 : (n == 503) = false := by rw [beq_eq_false_iff_ne]; exact h503
  have f507 : (n == 507) = false := by rw [beq_eq_false_iff_ne]; exact h507
  have HK := Lib.hid hk
  clear hk h200 h400 h404 h408 h409 h413 h410 h503 h507
  go_enter Tryz.func60, Tryz.ntmps60
  go_wp2
  go_ret
  exact ⟨by rw [HK.out]; rfl, rfl⟩

end Go.Proofs.YtdegmpimcappjaaGreatDoor

/- May a result be written: the program. -/
namespace Go.Proofs.YtdegmpimcappjaaGreatDoor
open Go.RowKit Go.Gl Go.Front

/-- A slice that reads as texts. -/
def Kv (w : World) (v : Value) (l : List (List UInt8)) : Prop :=
  ∃ a c, v = .slice a l.length c ∧ (l = [] ∨ ∃ b o, a = some ⟨b, o, none⟩ ∧ b < w.heap.size ∧ ∀ (j : Nat) (k : List UInt8), l[j]? = some k → w.cell? ⟨b, o + j, none⟩ = some (.string ⟨k.toArray⟩))

theorem Kv.grow {w w' : World} {v : Value} {l : List (List UInt8)} (h : Kv w v l) (hg : Grow w w') : Kv w' v l := by
  obtain ⟨a, c, hv, h⟩ := h
  refine ⟨a, c, hv, ?_⟩
  rcases h with h | ⟨b, o, ha, hb, hc⟩
  · exact .inl h
  · exact .inr ⟨b, o, ha, Nat.lt_of_lt_of_le hb hg.size, fun j k hk => by rw [Grow.cells _ _ _ hg hb]; exact hc j k hk⟩

theorem kv_nil (w : World) : Kv w (.slice none 0 0) [] := ⟨none, 0, rfl, .inl rfl⟩

theorem bl_tri : ∀ x y : List UInt8, (Op.bytesLess x y || x == y) = !Op.bytesLess y x
  | [], [] => rfl
  | [], _ :: _ => rfl
  | _ :: _, [] => rfl
  | a :: x, b :: y => by
    have ih := bl_tri x y
    rw [Op.bytesLess, Op.bytesLess, List.cons_beq_cons]
    rcases Nat.lt_trichotomy a.toNat b.toNat with h | h | h
    · have h1 : a < b := h
      have h2 : ¬ b < a := fun e => by have : b.toNat < a.toNat := e; omega
      have h3 : (b == a) = false := by rw [beq_eq_false_iff_ne]; intro e; rw [e] at h; omega
      simp [h1, h2, h3]
    · have h0 : a = b := UInt8.toNat_inj.1 h
      subst h0
      have h1 : ¬ a < a := fun e => by have : a.toNat < a.toNat := e; omega
      simp only [h1, decide_false, beq_self_eq_true, Bool.true_and, Bool.false_or]
      exact ih
    · have h1 : b < a := h
      have h2 : ¬ a < b := fun e => by have : a.toNat < b.toNat := e; omega
      have h3 : (a == b) = false := by rw [beq_eq_false_iff_ne]; intro e; rw [e] at h; omega
      simp [h1, h2, h3]

/-- How far the keys have been found right. -/
def RgInv (W : World) (l : List (List UInt8)) (iv : Value) (wr : World) : Prop := ∃ i : Nat, iv = .int .i64 i ∧ i ≤ l.length ∧ KeysTo l i ∧ wr = W

abbrev resV (r : ResD) (kv dv : Value) : Value := .agg #[.int .i64 r.status, .int .u64 r.upload, kv, .bool r.more, dv]

set_option maxRecDepth 100000 in
set_option maxHeartbeats 16000000 in
theorem right_any {w : World} {r : ResD} {kv dv : Value} (hk : Kv w kv r.keys) (hd : Bv w dv r.data) (hl : r.keys.length ≤ 9223372036854775807) :
    Calls Tryz.prog 27 #[.agg #[.int .i64 r.status, .int .u64 r.upload, kv, .bool r.more, dv]] w fun e w' => e = .returned (.bool (rightR r)) ∧ Grow w w' := by
  obtain ⟨st, up, keys, more, data⟩ := r
  simp only at hk hd hl
  obtain ⟨ka, kc, rfl, hkc⟩ := hk
  obtain ⟨da, dc, rfl, _⟩ := hd
  obtain ⟨k0, hk0⟩ : ∃ b, knownB st = b := ⟨_, rfl⟩
  obtain ⟨x1, hx1⟩ : ∃ b, decide ((1000 : Int) < (keys.length : Int)) = b := ⟨_, rfl⟩
  obtain ⟨x2, hx2⟩ : ∃ b, decide (0 < keys.length) = b := ⟨_, rfl⟩
  obtain ⟨x3, hx3⟩ : ∃ b, decide (0 < data.length) = b := ⟨_, rfl⟩
  obtain ⟨x4, hx4⟩ : ∃ b, decide ((268435456 : Int) < (data.length : Int)) = b := ⟨_, rfl⟩
  have HR : Hid (rightR ⟨st, up, keys, more, data⟩ = (!(!k0 || x1 || (x2 && x3) || x4) && keysF keys)) := Lib.hid (by
    have e1 : decide (keys.length ≤ 1000) = !x1 := by rw [← hx1, ← decide_not, decide_eq_decide]; omega
    have e2 : decide (keys = []) = !x2 := by rw [← hx2, ← decide_not, decide_eq_decide]; simp
    have e3 : decide (data = []) = !x3 := by rw [← hx3, ← decide_not, decide_eq_decide]; simp
    have e4 : decide (data.length ≤ 268435456) = !x4 := by rw [← hx4, ← decide_not, decide_eq_decide]; omega
    unfold rightR
    rw [hk0, e1, e2, e3, e4]
    cases k0 <;> cases x1 <;> cases x2 <;> cases x3 <;> cases x4 <;> rfl)
  have HK : Hid (∀ W, Calls Tryz.prog 59 #[.int .i64 st] W fun e w' => e = .returned (.bool k0) ∧ w' = W) := Lib.hid (fun W => by rw [← hk0]; exact known_any st W)
  have Hkc := Lib.hid hkc
  clear hkc hk0
  have hB := heap_alloc_new w (.cells #[.int .i64 st, .int .u64 up, .slice ka keys.length kc, .bool more, .slice da data.length dc] 48)
  have hg0 := Grow.alloc w (.cells #[.int .i64 st, .int .u64 up, .slice ka keys.length kc, .bool more, .slice da data.length dc] 48)
  go_enter Tryz.func27, Tryz.ntmps27
  go_upto_region 1 with fail
  generalize w.alloc (.cells #[.int .i64 st, .int .u64 up, .slice ka keys.length kc, .bool more, .slice da data.length dc] 48) = W at *
  have c0 : W.cell? ⟨w.heap.size, 0, none⟩ = some (.int .i64 st) := ck_cell hB rfl
  have c2 : W.cell? ⟨w.heap.size, 2, none⟩ = some (.slice ka keys.length kc) := ck_cell hB rfl
  have c4 : W.cell? ⟨w.heap.size, 4, none⟩ = some (.slice da data.length dc) := ck_cell hB rfl
  have Hcl : Hid (∀ b j, b < w.heap.size → W.cell? ⟨b, j, none⟩ = w.cell? ⟨b, j, none⟩) := Lib.hid (fun b j hb => Grow.cells _ _ _ hg0 hb)
  generalize w.heap.size = B1 at *
  go_cut [32] from 5 to 33 (fun v wx => v = .bool (!k0 || x1 || (x2 && x3) || x4) ∧ wx = W)
  case first =>
    cases k0 with
    | false =>
      go_wp2_with fail
      (with_reducible refine (HK.out _).mono ?_)
      rintro e w1 ⟨rfl, hw⟩
      have hw' := hw.symm
      subst hw'
      clear hw
      go_wp2
      go_meet
      exact ⟨rfl, rfl⟩
    | true =>
      go_wp2_with fail
      (with_reducible refine (HK.out _).mono ?_)
      rintro e w1 ⟨rfl, hw⟩
      have hw' := hw.symm
      subst hw'
      clear hw
      cases x1 <;> cases x2 <;> cases x3 <;> cases x4
      all_goals
        go_wp2
        go_meet
        exact ⟨rfl, rfl⟩
  case rest =>
  obtain ⟨rfl, hw⟩ := hcut
  have hw' := hw.symm
  subst hw'
  clear hw HK hx1 hx2 hx3 hx4
  cases hbit : (!k0 || x1 || (x2 && x3) || x4) with
  | true =>
    rw [hbit] at HR
    clear hbit
    go_wp2
    go_ret
    exact ⟨by rw [HR.out]; rfl, hg0⟩
  | false =>
    rw [hbit] at HR
    clear hbit
    go_wp2_with fail
    go_loopw [36] (fun iv wr => RgInv W keys iv wr) (fun iv _ => keys.length - (intOf iv).toNat)
    case atStart => exact ⟨0, rfl, Nat.zero_le _, fun j k hj => absurd hj (Nat.not_lt_zero _), rfl⟩
    case round =>
      obtain ⟨i, rfl, hi, hto, hw⟩ := hrel
      have hw' := hw.symm
      subst hw'
      clear hw
      by_cases hlt : i < keys.length
      · obtain ⟨k, hkk⟩ : ∃ k, keys[i]? = some k := ⟨keys[i], by simp [hlt]⟩
        obtain ⟨b, o, rfl, hbs, hc⟩ := Hkc.out.resolve_left (fun e => by rw [e] at hlt; simp at hlt)
        have hcn : W.cell? ⟨b, o + i, none⟩ = some (.string ⟨k.toArray⟩) := by rw [Hcl.out _ _ hbs]; exact hc i k hkk
        have hi1 : (i : Int) < (keys.length : Int) := by omega
        have hi0 : (0 : Int) ≤ (i : Int) := by omega
        have hwi : IntKind.i64.wrap ((i : Int) + 1) = (i : Int) + 1 := IntWalk.i64_in _ (by omega)
        by_cases hkb : keyB k = true
        · have f1 : ¬ ((k.length : Int) < 1) := by unfold keyB at hkb; simp at hkb; omega
          have f2 : ¬ ((1024 : Int) < (k.length : Int)) := by unfold keyB at hkb; simp at hkb; omega
          by_cases hz : i = 0
          · subst hz
            have Hrel : Hid (RgInv W keys (.int .i64 (((0 : Nat) : Int) + 1)) W) := Lib.hid ⟨1, by simp, hlt, keysTo_step hto hkk hkb (fun p h => absurd h (Nat.lt_irrefl 0)), rfl⟩
            have g1 : decide ((0 : Int) < ((0 : Nat) : Int)) = false := by decide
            have hcn0 : W.cell? ⟨b, o, none⟩ = some (.string ⟨k.toArray⟩) := by simpa using hcn
            clear hto hkk hkb hc
            go_wp2
            go_roundw
            case rel => exact Hrel.out
            case measure => simp [intOf]; omega
          · obtain ⟨p, hpp⟩ : ∃ p, keys[i - 1]? = some p := ⟨keys[i - 1], by simp⟩
            obtain ⟨j, hj⟩ : ∃ j, j = i - 1 := ⟨_, rfl⟩
            rw [← hj] at hpp
            have hcp : W.cell? ⟨b, o + j, none⟩ = some (.string ⟨p.toArray⟩) := by rw [Hcl.out _ _ hbs]; exact hc j p hpp
            have hwj : IntKind.i64.wrap ((i : Int) - 1) = (j : Int) := by rw [IntWalk.i64_in _ (by omega)]; omega
            have hj1 : (j : Int) < (keys.length : Int) := by omega
            have hj0 : (0 : Int) ≤ (j : Int) := by omega
            have g1 : (0 : Int) < (i : Int) := by omega
            have htri := bl_tri k p
            obtain ⟨y, hy⟩ : ∃ y, Op.bytesLess p k = y := ⟨_, rfl⟩
            have hnot : Hid (y = false → keysF keys = false) := Lib.hid (fun e => keysF_not hkk (.inr ⟨p, by omega, by rw [← hj]; exact hpp, hy.trans e⟩))
            have Hrel : Hid (y = true → RgInv W keys (.int .i64 ((i : Int) + 1)) W) := Lib.hid (fun e => ⟨i + 1, by simp, hlt, keysTo_step hto hkk hkb (fun p' h hp' => by
              rw [← hj, hpp] at hp'; cases hp'; exact hy.trans e), rfl⟩)
            rw [hy] at htri
            clear hto hkk hkb hc hpp hy hj
            cases y with
            | true =>
              go_wp2
              go_roundw
              case rel => exact Hrel.out rfl
              case measure => simp [intOf]; omega
            | false =>
              have HK2 : Hid (keysF keys = false) := Lib.hid (hnot.out rfl)
              clear Hrel hnot
              go_wp2
              go_ret
              exact ⟨by rw [HR.out, HK2.out]; rfl, hg0⟩
        · have HK2 : Hid (keysF keys = false) := Lib.hid (keysF_not hkk (.inl (by simpa using hkb)))
          have hkl : (k.length : Int) < 1 ∨ (¬ ((k.length : Int) < 1) ∧ (1024 : Int) < (k.length : Int)) := by unfold keyB at hkb; simp at hkb; omega
          clear hto hkk hkb hc
          rcases hkl with f1 | ⟨f1, f2⟩
          · go_wp2
            go_ret
            exact ⟨by rw [HR.out, HK2.out]; rfl, hg0⟩
          · go_wp2
            go_ret
            exact ⟨by rw [HR.out, HK2.out]; rfl, hg0⟩
      · have hi1 : ¬ ((i : Int) < (keys.length : Int)) := by omega
        have hie : i = keys.length := by omega
        have HK2 : Hid (keysF keys = true) := Lib.hid (keysTo_all (hie ▸ hto))
        clear hto hie
        go_wp2
        go_ret
        exact ⟨by rw [HR.out, HK2.out]; rfl, hg0⟩
end Go.Proofs.YtdegmpimcappjaaGreatDoor
