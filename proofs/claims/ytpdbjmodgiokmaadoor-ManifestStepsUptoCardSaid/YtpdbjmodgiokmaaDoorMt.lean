/- How apply and Apply return. -/
import Derived.Test.YtpdbjmodgiokmaaDoorM5
namespace Go.Proofs.YtpdbjmodgiokmaaDoor
open Go.RowKit Go.Gl

theorem results_apply {w : World} {t : Array Value} {rb : Nat} {x0 x1 x2 x3 : Value} {c : Int} (h4 : t.getD 4 undef = .pointer (some ⟨rb, 0, none⟩)) (h5 : t.getD 5 undef = .int .i64 c) (hW : w.heap[rb]? = some (.cells #[x0, x1, x2, x3] 27 (0, 0))) :
    (results Tryd.f12 t).run Tryd.prog w = .ok (.tuple #[.agg #[x0, x1, x2, x3], .int .i64 c]) w := by
  obtain ⟨k0, k1, k2, k3⟩ := cells4 hW
  simp only [Array.getD_eq_getD_getElem?] at h4 h5
  simp [results, Tryd.results12, go_sem, h4, h5, k0, k1, k2, k3]

theorem results_Apply {w : World} {t : Array Value} {rb : Nat} {x0 x1 x2 x3 : Value} {c : Int} (h4 : t.getD 4 undef = .pointer (some ⟨rb, 0, none⟩)) (h5 : t.getD 5 undef = .int .i64 c) (hW : w.heap[rb]? = some (.cells #[x0, x1, x2, x3] 27 (0, 0))) :
    (results Tryd.f6 t).run Tryd.prog w = .ok (.tuple #[.agg #[x0, x1, x2, x3], .int .i64 c]) w := by
  obtain ⟨k0, k1, k2, k3⟩ := cells4 hW
  simp only [Array.getD_eq_getD_getElem?] at h4 h5
  simp [results, Tryd.results6, go_sem, h4, h5, k0, k1, k2, k3]
end Go.Proofs.YtpdbjmodgiokmaaDoor
