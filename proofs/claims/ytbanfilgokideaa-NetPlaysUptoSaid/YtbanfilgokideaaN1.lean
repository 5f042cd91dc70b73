/- net.New, the node test of Send, slices.Clone at bytes: what each call returns and that nothing that was there is turned; Clone asks at most 2^47 bytes. -/
import Derived.Test.YtbanfilgokideaaRows
import Derived.Test.YtbanfilgokideaaGl
import Derived.Deep.QuietTactic
import Derived.BigQuiet
import Derived.Lib.Hide
namespace Go.Proofs.Ytbanfilgokideaa
open Go.RowKit Go.Gl

theorem new_ok (a b : Int) (w : World) (h1 : 1 ≤ a) (h2 : a ≤ 16) (h3 : 1 ≤ b) (h4 : b ≤ 65536) :
    Calls Try.prog 7 #[.int .i64 a, .int .i64 b] w fun e w' => e = .returned (.tuple #[.pointer (some ⟨w.heap.size + 1, 0, none⟩), .int .i64 0]) ∧ w' = (w.alloc (.map #[] 0)).alloc (.cells #[.int .i64 a, .int .i64 b, .int .i64 0, .map (some w.heap.size)] 49) := by
  have hmm := @run_makeMap Try.prog
  go_enter Try.func7, Try.ntmps7
  go_wp2
  go_ret2
  exact ⟨rfl, rfl⟩

set_option maxHeartbeats 400000 in
theorem node_any (k nodes : Int) (bx p : Nat) (w : World) (h1 : w.cell? ⟨bx, 0, none⟩ = some (.pointer (some ⟨p, 0, none⟩))) (h2 : w.cell? ⟨p, 0, none⟩ = some (.int .i64 nodes)) :
    Calls Try.prog 17 #[.int .i64 k, .pointer (some ⟨bx, 0, none⟩)] w fun e w' => e = .returned (.bool (decide (0 ≤ k ∧ k < nodes))) ∧ w = w' := by
  by_cases hk : 0 ≤ k
  · go_enter Try.func17, Try.ntmps17
    go_wp2
    go_ret
    exact ⟨by simp [hk], rfl⟩
  · have hk' : decide (0 ≤ k) = false := by simpa using hk
    go_enter Try.func17, Try.ntmps17
    go_wp2
    go_ret
    exact ⟨by simp, rfl⟩

theorem Try.info5 : (Try.prog.info? 5).map (fun i => (i.zero, i.size, i.bytes)) = some (some (.int .u8 0), 1, 1) := by kernel_rfl
theorem Try.info22 : (Try.prog.info? 22).map (fun i => (i.zero, i.size, i.bytes)) = some (some (.slice none 0 0), 1, 24) := by kernel_rfl

set_option maxHeartbeats 400000 in
theorem clone_nil (w : World) :
    Calls Try.prog 18 #[.slice none 0 0] w fun e w' => e = .returned (.slice none 0 0) ∧ w = w' := by
  have h0 := @Lib.run_eql_slice_nil Try.prog
  go_enter Try.func18, Try.ntmps18
  go_wp2
  go_ret
  exact ⟨rfl, rfl⟩

set_option maxHeartbeats 400000 in
theorem clone_zero (w : World) (a : Addr) (c : Nat) :
    Calls Try.prog 18 #[.slice (some a) 0 c] w (Copied 5 w []) := by
  have h0 := @Lib.run_eql_slice_nil Try.prog
  go_enter Try.func18, Try.ntmps18
  go_wp2_with (at_builtin; refine wpList_append rfl rfl rfl rfl (run_append_copy_zero Try.underlying22 Try.info5 (.inr ⟨_, _, rfl⟩)) ?_)
  go_ret
  exact ⟨_, rfl, .inr ⟨w.heap.size, 0, #[], rfl, heap_alloc_new w _, rfl, fun i x hx => by simp at hx⟩, fun b hb => by cases hb; exact Nat.le_refl _, Grow.alloc _ _⟩

set_option maxHeartbeats 400000 in
theorem clone_some (w : World) (b o c : Nat) (l : List UInt8) (hl : 0 < l.length) (hmax : l.length ≤ 140737488355328) (hb : b < w.heap.size) (hc : ∀ (i : Nat) (x : UInt8), l[i]? = some x → w.cell? ⟨b, o + i, none⟩ = some (.int .u8 x.toNat)) :
    Calls Try.prog 18 #[.slice (some ⟨b, o, none⟩) l.length c] w (Copied 5 w l) := by
  obtain ⟨cap, hcap, hrun⟩ := run_append_copy (P := Try.prog) (w := w.alloc (.cells #[] 5)) (t := 22) (E := 5) (ty := 22) (b0 := w.heap.size) (c := c) Try.underlying22 Try.info5 hl hmax
    (fun i x hx => by rw [World.cell?_alloc_lt _ _ _ hb]; exact hc i x hx)
  have H := Lib.hid hrun
  clear hrun hc
  have h0 := @Lib.run_eql_slice_nil Try.prog
  go_enter Try.func18, Try.ntmps18
  go_wp2_with (at_builtin; refine wpList_append rfl rfl rfl rfl H.out ?_)
  go_ret
  refine ⟨_, rfl, ?_, fun b hb => by cases hb; simp, ?_⟩
  · exact oBytes_new (w := (w.alloc (.cells #[] 5)).drew) hcap (by simp)
  · exact ((Grow.alloc _ _).trans (Grow.drew _)).trans (Grow.alloc _ _)

theorem clone_any {w : World} {v : Value} {l : List UInt8} (h : Bytes w v l) (hmax : l.length ≤ 140737488355328) : Calls Try.prog 18 #[v] w (Copied 5 w l) := by
  rcases h with ⟨rfl, rfl⟩ | ⟨b, o, c, rfl, hb, hc⟩
  · exact (clone_nil w).mono fun e w' ⟨he, hw⟩ => by
      subst hw
      exact ⟨_, he, .inl ⟨rfl, rfl⟩, (fun b hb => by cases hb), Grow.refl _⟩
  · cases l with
    | nil => exact clone_zero w ⟨b, o, none⟩ c
    | cons x l => exact clone_some w b o c (x :: l) (by simp) hmax hb hc

/-- The value reads as the bytes l; an empty slice may lie anywhere. -/
def BytesA (w : World) (v : Value) (l : List UInt8) : Prop := (l = [] ∧ ∃ a c, v = .slice (some a) 0 c) ∨ Bytes w v l

theorem BytesA.keep {w w' : World} {v : Value} {l : List UInt8} (h : BytesA w v l) (hs : w.heap.size ≤ w'.heap.size) (hk : ∀ b, blk v = some b → l ≠ [] → w'.heap[b]? = w.heap[b]?) : BytesA w' v l := by
  rcases h with h | h
  · exact .inl h
  · by_cases hl : l = []
    · subst hl
      rcases h with ⟨rfl, _⟩ | ⟨b, o, c, rfl, _⟩
      · exact .inr (.inl ⟨rfl, rfl⟩)
      · exact .inl ⟨rfl, _, _, rfl⟩
    · exact .inr (h.keep hs fun b hb => hk b hb hl)

theorem BytesA.grow {w w' : World} {v : Value} {l : List UInt8} (h : BytesA w v l) (hg : Grow w w') : BytesA w' v l := by
  rcases h with h | h
  · exact .inl h
  · exact .inr (hg.bytes h)

theorem clone_anyA {w : World} {v : Value} {l : List UInt8} (h : BytesA w v l) (hmax : l.length ≤ 140737488355328) : Calls Try.prog 18 #[v] w (Copied 5 w l) := by
  rcases h with ⟨rfl, a, c, rfl⟩ | h
  · exact clone_zero w a c
  · exact clone_any h hmax
end Go.Proofs.Ytbanfilgokideaa
