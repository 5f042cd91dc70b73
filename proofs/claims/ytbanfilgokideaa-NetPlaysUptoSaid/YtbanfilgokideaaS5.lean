/- same at equal messages; the two News. -/
import Derived.Test.YtbanfilgokideaaR8
import Derived.Test.YtbanfilgokideaaS4
namespace Go.Proofs.Ytbanfilgokideaa
open Go.RowKit Go.Gl

theorem same_true {w : World} (f t : Int) (a1 a2 : Option Addr) (n1 n2 c1 c2 : Nat) (l : List UInt8) (h1 : Bytes w (.slice a1 n1 c1) l) (h2 : Bytes w (.slice a2 n2 c2) l) :
    Calls Try.prog 23 #[.agg #[.int .i64 f, .int .i64 t, .slice a1 n1 c1], .agg #[.int .i64 f, .int .i64 t, .slice a2 n2 c2]] w (fun e w' => e = .returned (.bool true) ∧ Grow w w') := by
  have k1 : ∀ x y, (convert 22 9 (.slice a1 n1 c1)).run Try.prog ((w.alloc x).alloc y) = .ok (.string ⟨l.toArray⟩) ((w.alloc x).alloc y) := fun x y =>
    run_string Try.underlying22 Try.underlying5 Try.underlying9 (Grow.bytes ((Grow.alloc w x).trans (Grow.alloc _ y)) h1)
  have k2 : ∀ x y, (convert 22 9 (.slice a2 n2 c2)).run Try.prog ((w.alloc x).alloc y) = .ok (.string ⟨l.toArray⟩) ((w.alloc x).alloc y) := fun x y =>
    run_string Try.underlying22 Try.underlying5 Try.underlying9 (Grow.bytes ((Grow.alloc w x).trans (Grow.alloc _ y)) h2)
  have e1 : (f == f) = true := by simp
  have e2 : (t == t) = true := by simp
  clear h1 h2
  go_enter Try.func23, Try.ntmps23
  go_wp2
  go_ret
  exact ⟨rfl, by (repeat (first | exact Below.refl _ _ | assumption | refine Below.drew ?_ | refine bDrewN ?_ | refine Below.setCell ?_ (by first | omega | (simp <;> omega)) _ | refine Below.alloc ?_ (by first | omega | (simp <;> omega)) _))⟩

theorem ref_new_ok (a b : Int) (w : World) (h1 : 1 ≤ a) (h2 : a ≤ 16) (h3 : 1 ≤ b) (h4 : b ≤ 65536) :
    Calls Try.prog 14 #[.int .i64 a, .int .i64 b] w fun e w' => e = .returned (.tuple #[.pointer (some ⟨w.heap.size, 0, none⟩), .int .i64 0]) ∧ w' = w.alloc (.cells #[.int .i64 a, .int .i64 b, .int .i64 0, .slice none 0 0] 61) := by
  go_enter Try.func14, Try.ntmps14
  go_wp2
  go_ret2
  exact ⟨rfl, rfl⟩

def BadNew (a b : Int) : Prop := a < 1 ∨ 16 < a ∨ b < 1 ∨ 65536 < b

theorem ref_new_bad (a b : Int) (w : World) (h : BadNew a b) : Calls Try.prog 14 #[.int .i64 a, .int .i64 b] w fun e w' => e = .returned (.tuple #[.pointer none, .int .i64 1]) ∧ w' = w := by
  by_cases h1 : a < 1
  · go_enter Try.func14, Try.ntmps14
    go_wp2
    go_ret2
    exact ⟨rfl, rfl⟩
  · by_cases h2 : 16 < a
    · go_enter Try.func14, Try.ntmps14
      go_wp2
      go_ret2
      exact ⟨rfl, rfl⟩
    · by_cases h3 : b < 1
      · go_enter Try.func14, Try.ntmps14
        go_wp2
        go_ret2
        exact ⟨rfl, rfl⟩
      · have h4 : 65536 < b := by unfold BadNew at h; omega
        go_enter Try.func14, Try.ntmps14
        go_wp2
        go_ret2
        exact ⟨rfl, rfl⟩

theorem new_bad (a b : Int) (w : World) (h : BadNew a b) : Calls Try.prog 7 #[.int .i64 a, .int .i64 b] w fun e w' => e = .returned (.tuple #[.pointer none, .int .i64 1]) ∧ w' = w := by
  by_cases h1 : a < 1
  · go_enter Try.func7, Try.ntmps7
    go_wp2
    go_ret2
    exact ⟨rfl, rfl⟩
  · by_cases h2 : 16 < a
    · go_enter Try.func7, Try.ntmps7
      go_wp2
      go_ret2
      exact ⟨rfl, rfl⟩
    · by_cases h3 : b < 1
      · go_enter Try.func7, Try.ntmps7
        go_wp2
        go_ret2
        exact ⟨rfl, rfl⟩
      · have h4 : 65536 < b := by unfold BadNew at h; omega
        go_enter Try.func7, Try.ntmps7
        go_wp2
        go_ret2
        exact ⟨rfl, rfl⟩

theorem ref_at_new {B : Nat} (a b : Int) (w : World) (hB : B ≤ w.heap.size) : RefAt B (w.alloc (.cells #[.int .i64 a, .int .i64 b, .int .i64 0, .slice none 0 0] 61)) w.heap.size a b 0 (.slice none 0 0) [] :=
  ⟨heap_alloc_new _ _, World.ownsRow_nil _ _ _ _, (fun m hm => by cases hm), hB, by simp; omega⟩
end Go.Proofs.Ytbanfilgokideaa
