/- The document's net: Clear, New. -/
import Derived.Test.YtbanfilgokideaaR7
namespace Go.Proofs.Ytbanfilgokideaa
open Go.RowKit Go.Gl

/-- The messages that are neither from nor to a node. -/
def offL (x : Int) (L : List RM) : List RM := L.filter fun m => !decide (m.frm = x) && !decide (m.to = x)

theorem offL_snoc (x : Int) (L : List RM) (m : RM) : offL x (L ++ [m]) = if (!decide (m.frm = x) && !decide (m.to = x)) = true then offL x L ++ [m] else offL x L := by
  unfold offL
  rw [List.filter_append]
  by_cases h : (!decide (m.frm = x) && !decide (m.to = x)) = true
  · rw [if_pos h]; simp [h]
  · rw [if_neg h]; simp [h]

def RClearInv (w : World) (x : Int) (L : List RM) (lv iv : Value) (wr : World) : Prop :=
  ∃ (i : Nat) (la : Option Addr) (ln lc : Nat), i ≤ L.length ∧ iv = .int .i64 i ∧ lv = .slice la ln lc ∧ wr.ownsRow w.heap.size 31 3 (.slice la ln lc) (offL x (L.take i)).length (rcells (offL x (L.take i))) ∧ Grow w wr

def RCleared (B : Nat) (w : World) (q : Nat) (nodes bound time : Int) (L : List RM) (x : Int) (e : Ending) (w' : World) : Prop :=
  e = .returned (.tuple #[]) ∧ KeepQ B q w w' ∧ ∃ v', RefAt B w' q nodes bound time v' (offL x L)

set_option maxRecDepth 100000 in
set_option maxHeartbeats 2000000 in
theorem rclear_any {B : Nat} {w : World} {q : Nat} {nodes bound time : Int} {v : Value} {L : List RM} (h : RefAt B w q nodes bound time v L) (hmax : L.length < 1000000000) (x : Int) :
    Calls Try.prog 26 #[.pointer (some ⟨q, 0, none⟩), .int .i64 x] w (RCleared B w q nodes bound time L x) := by
  obtain ⟨k0, k1, k2, k3⟩ := h.cells
  obtain ⟨a, c, rfl, hrow⟩ := h.form
  have hq : q < w.heap.size := lt_of_getElem? h.self
  have Hcl := Lib.hid (Grow.cells (w := w))
  have Hrow := Lib.hid hrow
  have H := Lib.hid h
  clear h hrow
  go_enter Try.func26, Try.ntmps26
  go_wp2
  go_loopw [4, 5] (fun lv i wr => RClearInv w x L lv i wr) (fun _ i _ => L.length - (intOf i).toNat)
  case atStart => exact ⟨0, none, 0, 0, Nat.zero_le _, rfl, rfl, by simpa [offL, rcells] using World.ownsRow_nil _ _ _ _, Grow.refl _⟩
  case round =>
    obtain ⟨j, la, ln, lc, hj, rfl, rfl, hown, hg⟩ := hrel
    have d0 := Hcl.out wr q 3 hg hq
    rw [k3] at d0
    have Hown := Lib.hid hown
    have Hg := Lib.hid hg
    by_cases hlt : j < L.length
    · obtain ⟨m, hm⟩ : ∃ m, L[j]? = some m := ⟨L[j], by simp [hlt]⟩
      obtain ⟨g, rfl, hgs, hcs⟩ := Hrow.out (by omega)
      obtain ⟨c0, c1, c2⟩ := hcs j m hm
      rw [← Hcl.out wr _ _ hg hgs] at c0 c1 c2
      have hlt' : (j : Int) < (L.length : Int) := by omega
      have hj0 : (0 : Int) ≤ (j : Int) := by omega
      have hsn := offL_snoc x (L.take j) m
      rw [← take_snoc hm] at hsn
      have Hsn := Lib.hid hsn
      have Hm := Lib.hid hm
      have hmv := H.out.msg m (List.mem_of_getElem? hm)
      obtain ⟨ba, bl, bc, hmv'⟩ := oBytes_slice hmv
      rw [hmv'] at c2
      have Hmv := Lib.hid hmv'
      clear hsn hm hcs hown hg hmv hmv'
      by_cases h1 : m.frm = x
      · have hb : (m.frm != x) = false := by simp [h1]
        have Hrel : Hid (RClearInv w x L (.slice la ln lc) (.int .i64 ((j + 1 : Nat) : Int)) wr) := Lib.hid ⟨j + 1, la, ln, lc, hlt, rfl, rfl, by rw [Hsn.out, if_neg (by simp [h1])]; exact Hown.out, Hg.out⟩
        clear h1
        go_wp2
        go_roundw
        case rel => exact Hrel.out
        case measure => simp [intOf]; omega
      · have hb : (m.frm != x) = true := by simp [h1]
        by_cases h2 : m.to = x
        · have hb2 : (m.to != x) = false := by simp [h2]
          have Hrel : Hid (RClearInv w x L (.slice la ln lc) (.int .i64 ((j + 1 : Nat) : Int)) wr) := Lib.hid ⟨j + 1, la, ln, lc, hlt, rfl, rfl, by rw [Hsn.out, if_neg (by simp [h2])]; exact Hown.out, Hg.out⟩
          clear h1 h2
          go_wp2
          go_roundw
          case rel => exact Hrel.out
          case measure => simp [intOf]; omega
        · have hb2 : (m.to != x) = true := by simp [h2]
          rw [if_pos (by simp [h1, h2])] at Hsn
          clear h1 h2
          obtain ⟨i0, hi0, hz0, hz1, hz2⟩ := info_parts Try.info31
          have hol : (offL x (L.take j)).length ≤ L.length := Nat.le_trans (List.length_filter_le _ _) (by simp; omega)
          have hnw : (wr.alloc (.cells #[.int .i64 m.frm, .int .i64 m.to, .slice ba bl bc] 31)).heap[wr.heap.size]? = some (.cells #[.int .i64 m.frm, .int .i64 m.to, .slice ba bl bc] 31 (0, 0)) := heap_alloc_new wr _
          have hsz := Hg.out.size
          obtain ⟨g2, cap2, w2, hrun, hown2, hgr, hloc, hlt2⟩ := run_append_lies (P := Try.prog) (wr.alloc (.cells #[.int .i64 m.frm, .int .i64 m.to, .slice ba bl bc] 31)) 59 59 w.heap.size 31 i0 _ 3 40 Try.underlying59 hi0 hz0 hz1 hz2 rfl (by decide) _ _ _ (Hown.out.alloc _)
            ⟨wr.heap.size, 0, none⟩ 1 1 m.cells (by simp [RM.cells]) (fun j u hu => World.news_of_block hnw j u (by simpa [RM.cells, Hmv.out] using hu)) (fun u hu => by simp only [RM.cells, List.mem_cons, List.not_mem_nil, or_false, Hmv.out] at hu; rcases hu with rfl | rfl | rfl <;> rfl) (by decide) (by unfold maxLen; omega) (by omega) (by simp; omega) _ rfl
          have Hrun := Lib.hid hrun
          have hgw2 : Grow w w2 := by
            have h3 : Grow w (wr.alloc (.cells #[.int .i64 m.frm, .int .i64 m.to, .slice ba bl bc] 31)) := Hg.out.trans (Grow.alloc _ _)
            exact h3.grown hgr h3.size (fun k hk => (Hown.out.lt k hk).1)
          have Hrel : Hid (RClearInv w x L (.slice (some ⟨g2, 0, none⟩) ((offL x (L.take j)).length + 1) cap2) (.int .i64 ((j + 1 : Nat) : Int)) w2) := Lib.hid ⟨j + 1, _, _, _, hlt, rfl, rfl, by rw [Hsn.out, rcells_append, List.length_append]; exact hown2, hgw2⟩
          clear hrun hnw hown2 hgr hloc hgw2 hi0 hz0 hz1 hz2
          go_wp2_with (at_builtin; refine wpList_append rfl rfl rfl rfl Hrun.out ?_)
          go_roundw
          case rel => exact Hrel.out
          case measure => simp [intOf]; omega
    · obtain rfl : j = L.length := by omega
      rw [List.take_length] at Hown
      have dq := Hg.out.heap H.out.self
      have df : wr.frozen? ⟨q, 3, none⟩ = false := by simp [World.frozen?, dq]
      have Hdq := Lib.hid dq
      clear dq
      go_wp2
      go_end0
      rw [setCell_setO Hdq.out]
      refine ⟨rfl, ⟨?_, fun b o hb hne => ?_⟩, .slice la ln lc, setO_same (lt_of_getElem? Hdq.out), ⟨Hown.out.1, ?_⟩, fun m hm => ?_, H.out.base, ?_⟩
      · exact ⟨Hg.out.os, Hg.out.tape, Hg.out.output, by simpa [setO] using Hg.out.size, fun b hb => by
          have h1 := H.out.base
          have h2 := H.out.room
          rw [setO_other (by omega)]; exact Hg.out.block b (by omega)⟩
      · rw [setO_other hne]; exact Hg.out.heap hb
      · rcases Hown.out.2 with h1 | ⟨g, cap, cur, h1, h2, h3, h4⟩
        · exact .inl h1
        · have h5 := H.out.room
          refine .inr ⟨g, cap, cur, h1, by omega, ?_, h4⟩
          rw [setO_other (by omega), h3]
      · rcases H.out.msg m (List.mem_filter.1 hm).1 with h1 | ⟨b, c, arr, h1, h2, h3⟩
        · exact .inl h1
        · refine .inr ⟨b, c, arr, h1, ?_, h3⟩
          rw [setO_other (fun e => by rw [e, H.out.self] at h2; cases h2)]; exact Hg.out.heap h2
      · exact Nat.le_trans H.out.room (by simpa [setO] using Hg.out.size)
end Go.Proofs.Ytbanfilgokideaa
