/- net.Tick, net.Now, cmp.Compare, cmp.Or at int, and the document's New. -/
import Derived.Test.YtbanfilgokideaaN9
namespace Go.Proofs.Ytbanfilgokideaa
open Go.RowKit Go.Gl

theorem now_any {B : Nat} {w : World} {p r : Nat} {nodes bound now : Int} {gs : List Bag} (h : NetAt B w p r nodes bound now gs) :
    Calls Try.prog 30 #[.pointer (some ⟨p, 0, none⟩)] w fun e w' => e = .returned (.int .i64 now) ∧ w' = w := by
  obtain ⟨c0, c1, c2, c3⟩ := h.cells
  clear h
  go_enter Try.func30, Try.ntmps30
  go_wp2
  go_ret
  exact ⟨rfl, rfl⟩

theorem tick_run {B : Nat} {w : World} {p r : Nat} {nodes bound now : Int} {gs : List Bag} (h : NetAt B w p r nodes bound now gs) (h0 : 0 ≤ now) (h1 : now ≤ 1000000000) :
    Calls Try.prog 27 #[.pointer (some ⟨p, 0, none⟩)] w fun e w' => e = .returned (.int .i64 (now + 1)) ∧ w' = w.setCell ⟨p, 2, none⟩ (.int .i64 (now + 1)) := by
  obtain ⟨c0, c1, c2, c3⟩ := h.cells
  have hf : w.frozen? ⟨p, 2, none⟩ = false := by simp [World.frozen?, h.self]
  have hlt := lt_of_getElem? h.self
  have hw : IntKind.i64.wrap (now + 1) = now + 1 := IntWalk.i64_in _ (by omega)
  clear h
  go_enter Try.func27, Try.ntmps27
  go_wp2
  go_ret
  exact ⟨rfl, rfl⟩

theorem isNaN_int (x : Int) (w : World) : Calls Try.prog 41 #[.int .i64 x] w fun e w' => e = .returned (.bool false) ∧ w' = w := by
  have hb : (x != x) = false := by simp
  go_enter Try.func41, Try.ntmps41
  go_wp2
  go_ret
  exact ⟨rfl, rfl⟩

def cmpI (x y : Int) : Int := if x < y then -1 else if y < x then 1 else 0

theorem compare_int (x y : Int) (w : World) : Calls Try.prog 38 #[.int .i64 x, .int .i64 y] w fun e w' => e = .returned (.int .i64 (cmpI x y)) ∧ w' = w := by
  go_enter Try.func38, Try.ntmps38
  go_wp2_with (go_at_call 41; (with_reducible refine (isNaN_int _ _).mono ?_); rintro e w' ⟨rfl, rfl⟩)
  · rename_i h
    go_ret
    exact ⟨by rw [cmpI, if_pos h]; rfl, rfl⟩
  · rename_i h1 h2
    go_ret
    exact ⟨by rw [cmpI, if_neg (by omega), if_pos h2]; rfl, rfl⟩
  · rename_i h1 h2
    go_ret
    exact ⟨by rw [cmpI, if_neg (by omega), if_neg (by omega)]; rfl, rfl⟩

theorem or_two (x y : Int) (b : Nat) (w : World) (h0 : w.cell? ⟨b, 0, none⟩ = some (.int .i64 x)) (h1 : w.cell? ⟨b, 1, none⟩ = some (.int .i64 y)) :
    Calls Try.prog 37 #[.slice (some ⟨b, 0, none⟩) 2 2] w fun e w' => e = .returned (.int .i64 (if x = 0 then y else x)) ∧ w' = w := by
  by_cases hx : x = 0
  · subst hx
    by_cases hy : y = 0
    · subst hy
      go_enter Try.func37, Try.ntmps37
      go_wp2
      refine wp_loop_rounds 3 ?_
      rw [rounds_succ]
      go_wp2
      rw [rounds_succ]
      go_wp2
      rw [rounds_succ]
      go_wp2
      go_ret
      exact ⟨by simp, rfl⟩
    · have hb : (y != 0) = true := by simp [hy]
      go_enter Try.func37, Try.ntmps37
      go_wp2
      refine wp_loop_rounds 2 ?_
      rw [rounds_succ]
      go_wp2
      rw [rounds_succ]
      go_wp2
      go_ret
      exact ⟨by simp, rfl⟩
  · have hb : (x != 0) = true := by simp [hx]
    go_enter Try.func37, Try.ntmps37
    go_wp2
    refine wp_loop_rounds 1 ?_
    rw [rounds_succ]
    go_wp2
    go_ret
    exact ⟨by simp, rfl⟩
end Go.Proofs.Ytbanfilgokideaa
