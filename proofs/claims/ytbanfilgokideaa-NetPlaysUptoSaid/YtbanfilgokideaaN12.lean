/- The acts of a play in memory, and few: it returns a bool, and where it is true the acts are few and short; no condition. -/
import Derived.Test.YtbanfilgokideaaPV
namespace Go.Proofs.Ytbanfilgokideaa
open Go.RowKit Go.Gl

/-- An act xs it lies in memory. -/
structure ActD where
  op : Int
  frm : Int
  to : Int
  pick : Int
  tos : Value
  ks : List Int
  bytes : Value
  bn : Nat
  bs : List UInt8

/-- A slice of ints. -/
def Ints (w : World) (v : Value) (ks : List Int) : Prop :=
  ∃ a c, v = .slice a ks.length c ∧ (ks = [] ∨ ∃ b o, a = some ⟨b, o, none⟩ ∧ b < w.heap.size ∧ ∀ (j : Nat) (k : Int), ks[j]? = some k → w.cell? ⟨b, o + j, none⟩ = some (.int .i64 k))

/-- A slice of bytes. -/
def BytesW (w : World) (v : Value) (l : List UInt8) : Prop :=
  ∃ a c, v = .slice a l.length c ∧ (l = [] ∨ ∃ b o, a = some ⟨b, o, none⟩ ∧ b < w.heap.size ∧ ∀ (j : Nat) (k : UInt8), l[j]? = some k → w.cell? ⟨b, o + j, none⟩ = some (.int .u8 k.toNat))

structure ActAt (w : World) (b o : Nat) (a : ActD) : Prop where
  op : w.cell? ⟨b, o, none⟩ = some (.int .i64 a.op)
  frm : w.cell? ⟨b, o + 1, none⟩ = some (.int .i64 a.frm)
  to : w.cell? ⟨b, o + 2, none⟩ = some (.int .i64 a.to)
  pick : w.cell? ⟨b, o + 3, none⟩ = some (.int .i64 a.pick)
  tos : w.cell? ⟨b, o + 4, none⟩ = some a.tos
  bytes : w.cell? ⟨b, o + 5, none⟩ = some a.bytes
  ints : Ints w a.tos a.ks
  len : ∃ x c, a.bytes = .slice x a.bn c
  kmax : a.ks.length ≤ 9223372036854775807
  bmax : a.bn ≤ 9223372036854775807
  bts : BytesW w a.bytes a.bs
  bsn : a.bs.length = a.bn

/-- A slice of acts. -/
def ActsAt (w : World) (v : Value) (xs : List ActD) : Prop :=
  ∃ a c, v = .slice a xs.length c ∧ (xs = [] ∨ ∃ b o, a = some ⟨b, o, none⟩ ∧ b < w.heap.size ∧ ∀ (i : Nat) (x : ActD), xs[i]? = some x → ActAt w b (o + i * 6) x)

/-- What few promises. -/
def FewOk (xs : List ActD) : Prop := xs.length ≤ 500 ∧ ∀ x ∈ xs, x.ks.length ≤ 100 ∧ x.bn ≤ 1000

def FewPost (w : World) (xs : List ActD) (e : Ending) (w' : World) : Prop := ∃ r : Bool, e = .returned (.bool r) ∧ (r = true → FewOk xs) ∧ Grow w w'

def FewInv (w : World) (xs : List ActD) (n i : Value) (wr : World) : Prop :=
  ∃ (z : Int) (k : Nat), n = .int .i64 z ∧ i = .int .i64 k ∧ k ≤ xs.length ∧ (∀ x ∈ xs.take k, x.ks.length ≤ 100 ∧ x.bn ≤ 1000) ∧ Grow w wr

set_option maxRecDepth 100000 in
set_option maxHeartbeats 1000000 in
theorem few_some (w : World) (b o c : Nat) (xs : List ActD) (hb : b < w.heap.size) (hmax : xs.length ≤ 9223372036854775807) (ha : ∀ (i : Nat) (x : ActD), xs[i]? = some x → ActAt w b (o + i * 6) x) :
    Calls Try.prog 11 #[.slice (some ⟨b, o, none⟩) xs.length c] w (FewPost w xs) := by
  have Ha := Lib.hid ha
  clear ha
  go_enter Try.func11, Try.ntmps11
  go_wp2
  go_loopw [3, 4] (fun n i wr => FewInv w xs n i wr) (fun _ i _ => xs.length - (intOf i).toNat)
  case atStart => exact ⟨0, 0, rfl, rfl, Nat.zero_le _, by simp, Grow.refl _⟩
  case round =>
    obtain ⟨z, k, rfl, rfl, hk, hpre, hg⟩ := hrel
    by_cases hlt : k < xs.length
    · obtain ⟨x, hx⟩ : ∃ x, xs[k]? = some x := ⟨xs[k], by simp [hlt]⟩
      have hA := Ha.out k x hx
      have hcl := Grow.cells (w := w)
      obtain ⟨ta, tc, ht, _⟩ := hA.ints
      obtain ⟨ba, bc, hbb⟩ := hA.len
      have ct := hA.tos
      have cb := hA.bytes
      rw [ht] at ct
      rw [hbb] at cb
      have hk1 : (k : Int) < (xs.length : Int) := by omega
      have hk0 : (0 : Int) ≤ (k : Int) := by omega
      clear hA ht hbb
      obtain ⟨kn, hkn⟩ : ∃ kn, kn = x.ks.length := ⟨_, rfl⟩
      obtain ⟨bn, hbn⟩ : ∃ bn, bn = x.bn := ⟨_, rfl⟩
      rw [← hkn] at ct
      rw [← hbn] at cb
      have Hkn := Lib.hid hkn
      have Hbn := Lib.hid hbn
      have Hx := Lib.hid hx
      have Hpre := Lib.hid hpre
      clear hkn hbn hx hpre
      by_cases h1 : 1000 < bn
      · have h1' : decide (1000 < (bn : Int)) = true := by simp; omega
        have h1'' : (1000 : Int) < (bn : Int) := by omega
        go_wp2
        refine wp_region_pi (fun W => Below w.heap.size w W) [(0, false), (1, false), (2, false), (3, false), (4, false), (5, false), (6, false), (7, false), (8, false), (9, false), (10, false), (11, false), (12, false), (13, false), (14, false), (15, false), (16, false), (17, false)] (by kernel_rfl) (by kernel_rfl) (fun c a d v w h => by cases d <;> exact h) (hg.trans (by (repeat (first | exact Below.refl _ _ | assumption | refine Below.drew ?_ | refine bDrewN ?_ | refine Below.setCell ?_ (by first | omega | (simp <;> omega)) _ | refine Below.alloc ?_ (by first | omega | (simp <;> omega)) _)))) ?_
        simp only [arrange, nth]
        repeat (first | (refine wpPi_quiet (v := ?_) (by rfl) (fun W hW => ?_) ?_; rotate_left; (obtain hW := hW; go_simp; with_reducible rfl); simp only [Act.put, List.setIfInBounds_toArray, List.set_cons_zero, List.set_cons_succ]) | (refine wpPi_off (by rfl) ?_; simp only [Act.put, List.setIfInBounds_toArray, List.set_cons_zero, List.set_cons_succ]))
        refine wpPi_nil ?_
        go_wp2
        go_ret
        exact ⟨false, rfl, (fun h => by cases h), hg.trans (by (repeat (first | exact Below.refl _ _ | assumption | refine Below.drew ?_ | refine bDrewN ?_ | refine Below.setCell ?_ (by first | omega | (simp <;> omega)) _ | refine Below.alloc ?_ (by first | omega | (simp <;> omega)) _)))⟩
      · have h1' : decide (1000 < (bn : Int)) = false := by simp; omega
        have h1'' : (bn : Int) ≤ 1000 := by omega
        by_cases h2 : 100 < kn
        · have h2' : decide (100 < (kn : Int)) = true := by simp; omega
          have h2'' : (100 : Int) < (kn : Int) := by omega
          go_wp2
          refine wp_region_pi (fun W => Below w.heap.size w W) [(0, false), (1, false), (2, false), (3, false), (4, false), (5, false), (6, false), (7, false), (8, false), (9, false), (10, false), (11, false), (12, false), (13, false), (14, false), (15, false), (16, false), (17, false)] (by kernel_rfl) (by kernel_rfl) (fun c a d v w h => by cases d <;> exact h) (hg.trans (by (repeat (first | exact Below.refl _ _ | assumption | refine Below.drew ?_ | refine bDrewN ?_ | refine Below.setCell ?_ (by first | omega | (simp <;> omega)) _ | refine Below.alloc ?_ (by first | omega | (simp <;> omega)) _)))) ?_
          simp only [arrange, nth]
          repeat (first | (refine wpPi_quiet (v := ?_) (by rfl) (fun W hW => ?_) ?_; rotate_left; (obtain hW := hW; go_simp; with_reducible rfl); simp only [Act.put, List.setIfInBounds_toArray, List.set_cons_zero, List.set_cons_succ]) | (refine wpPi_off (by rfl) ?_; simp only [Act.put, List.setIfInBounds_toArray, List.set_cons_zero, List.set_cons_succ]))
          refine wpPi_nil ?_
          go_wp2
          go_ret
          exact ⟨false, rfl, (fun h => by cases h), hg.trans (by (repeat (first | exact Below.refl _ _ | assumption | refine Below.drew ?_ | refine bDrewN ?_ | refine Below.setCell ?_ (by first | omega | (simp <;> omega)) _ | refine Below.alloc ?_ (by first | omega | (simp <;> omega)) _)))⟩
        · have h2' : decide (100 < (kn : Int)) = false := by simp; omega
          have h2'' : (kn : Int) ≤ 100 := by omega
          go_wp2
          refine wp_region_pi (fun W => Below w.heap.size w W) [(0, false), (1, false), (2, false), (3, false), (4, false), (5, false), (6, false), (7, false), (8, false), (9, false), (10, false), (11, false), (12, false), (13, false), (14, false), (15, false), (16, false), (17, false)] (by kernel_rfl) (by kernel_rfl) (fun c a d v w h => by cases d <;> exact h) (hg.trans (by (repeat (first | exact Below.refl _ _ | assumption | refine Below.drew ?_ | refine bDrewN ?_ | refine Below.setCell ?_ (by first | omega | (simp <;> omega)) _ | refine Below.alloc ?_ (by first | omega | (simp <;> omega)) _)))) ?_
          simp only [arrange, nth]
          repeat (first | (refine wpPi_quiet (v := ?_) (by rfl) (fun W hW => ?_) ?_; rotate_left; (obtain hW := hW; go_simp; with_reducible rfl); simp only [Act.put, List.setIfInBounds_toArray, List.set_cons_zero, List.set_cons_succ]) | (refine wpPi_off (by rfl) ?_; simp only [Act.put, List.setIfInBounds_toArray, List.set_cons_zero, List.set_cons_succ]))
          refine wpPi_nil ?_
          go_wp2
          go_roundw
          case rel =>
            refine ⟨_, k + 1, rfl, rfl, hlt, fun y hy => ?_, hg.trans (by (repeat (first | exact Below.refl _ _ | assumption | refine Below.drew ?_ | refine bDrewN ?_ | refine Below.setCell ?_ (by first | omega | (simp <;> omega)) _ | refine Below.alloc ?_ (by first | omega | (simp <;> omega)) _)))⟩
            rw [List.take_succ_eq_append_getElem hlt] at hy
            rcases List.mem_append.1 hy with h3 | h3
            · exact Hpre.out y h3
            · have h4 : y = x := by
                have h5 := Hx.out
                simp only [List.getElem?_eq_getElem hlt, Option.some.injEq] at h5
                rw [← h5]; simpa using h3
              rw [h4, ← Hkn.out, ← Hbn.out]; omega
          case measure => simp [intOf]; omega
    · obtain rfl : k = xs.length := by omega
      rw [List.take_length] at hpre
      have Hpre := Lib.hid hpre
      clear hpre
      by_cases h1 : xs.length ≤ 500
      · have h1' : decide ((xs.length : Int) ≤ 500) = true := by simp; omega
        go_wp2
        go_ret
        exact ⟨decide (z ≤ 3000), rfl, fun _ => ⟨h1, Hpre.out⟩, hg⟩
      · have h1' : decide ((xs.length : Int) ≤ 500) = false := by simp; omega
        go_wp2
        go_ret
        exact ⟨false, rfl, (fun h => by cases h), hg⟩
end Go.Proofs.Ytbanfilgokideaa
