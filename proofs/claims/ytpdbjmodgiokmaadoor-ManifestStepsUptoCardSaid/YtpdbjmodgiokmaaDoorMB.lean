/- table, File(3). -/
import Derived.Test.YtpdbjmodgiokmaaDoorMA
import Derived.Shelf.Strconv.Itoa3
namespace Go.Proofs.YtpdbjmodgiokmaaDoor
open Go.RowKit Go.Gl

theorem table_any (f l : Int) (a b : ByteArray) (w : World) : Calls Tryd.prog 9 #[.int .i64 f, .int .i64 l, .string a, .string b] w fun e w' => e = .returned (.agg #[.int .i64 f, .int .i64 l, .string a, .string b, .int .i64 0]) ∧ Grow w w' := by
  go_enter Tryd.func9, Tryd.ntmps9
  go_wp2
  exact bodyPost_ret (v := .agg #[.int .i64 f, .int .i64 l, .string a, .string b, .int .i64 0]) (by simp [results, Tryd.results9, go_sem]) rfl ⟨rfl, by (repeat (first | exact Below.refl _ _ | assumption | refine Below.drew ?_ | refine bDrewN ?_ | refine Below.setCell ?_ (by first | omega | (simp <;> omega)) _ | refine Below.alloc ?_ (by first | omega | (simp <;> omega)) _))⟩

theorem itoa3 (w : World) : Calls Tryd.prog 28 #[.int .i64 3] w fun e w' => e = .returned (.string ⟨#[51]⟩) ∧ w' = w := by
  have h := Any.strconv_Itoa_small Tryd.itoa 3 (by decide) w
  have hd : Lib.decDigits 3 = [51] := by first | rfl | decide | simp [Lib.decDigits] | (unfold Lib.decDigits; rfl)
  rw [hd] at h
  exact h

theorem six3 (w : World) : Calls Tryd.prog 17 #[.int .i64 3] w fun e w' => e = .returned (.string ⟨#[48, 48, 48, 48, 48, 51]⟩) ∧ w' = w := by
  go_enter Tryd.func17, Tryd.ntmps17
  go_wp2_with (go_at_call 28; (with_reducible refine (itoa3 _).mono ?_); rintro e w' ⟨rfl, rfl⟩)
  refine wp_loop_rounds 6 ?_
  rw [rounds_succ]
  go_wp2
  rw [rounds_succ]
  go_wp2
  rw [rounds_succ]
  go_wp2
  rw [rounds_succ]
  go_wp2
  rw [rounds_succ]
  go_wp2
  rw [rounds_succ]
  go_wp2
  go_ret
  exact ⟨rfl, rfl⟩

theorem file3 (w : World) : Calls Tryd.prog 10 #[.int .i64 3] w fun e w' => e = .returned (.string ⟨#[116, 45, 48, 48, 48, 48, 48, 51]⟩) ∧ w' = w := by
  go_enter Tryd.func10, Tryd.ntmps10
  go_wp2_with (go_at_call 17; (with_reducible refine (six3 _).mono ?_); rintro e w' ⟨rfl, rfl⟩)
  go_ret
  exact ⟨rfl, rfl⟩
end Go.Proofs.YtpdbjmodgiokmaaDoor
