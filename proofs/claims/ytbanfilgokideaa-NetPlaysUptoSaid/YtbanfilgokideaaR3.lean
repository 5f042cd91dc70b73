/- The document's net: a message is laid in, if there is room. -/
import Derived.Test.YtbanfilgokideaaR2
namespace Go.Proofs.Ytbanfilgokideaa
open Go.RowKit Go.Gl

/-- The kinds of blocks that the document's net turns. -/
def softR (o : Obj) : Prop := (∃ a f, o = .cells a 61 f) ∨ ∃ a f, o = .cells a 31 f

theorem softR_net (a : Array Value) (f : Nat × Nat) : softR (.cells a 61 f) := .inl ⟨_, _, rfl⟩
theorem softR_row (a : Array Value) (f : Nat × Nat) : softR (.cells a 31 f) := .inr ⟨_, _, rfl⟩
theorem not_softR {t : TypeId} (h1 : t ≠ 61) (h2 : t ≠ 31) (a : Array Value) (f : Nat × Nat) : ¬ softR (.cells a t f) := by
  rintro (⟨_, _, e⟩ | ⟨_, _, e⟩) <;> cases e
  · exact h1 rfl
  · exact h2 rfl

theorem oBytes_hardR {B : Nat} {w w' : World} {v : Value} {l : List UInt8} (h : OBytes 5 w v l) (hk : Keep softR B w w') : OBytes 5 w' v l := by
  rcases h with h | ⟨b, c, arr, h1, h2, h3⟩
  · exact .inl h
  · exact .inr ⟨b, c, arr, h1, hk.hard b _ h2 (not_softR (by decide) (by decide) _ _), h3⟩

theorem RefAt.grow {B : Nat} {w w' : World} {q : Nat} {nodes bound time : Int} {v : Value} {L : List RM} (h : RefAt B w q nodes bound time v L) (hg : Grow w w') : RefAt B w' q nodes bound time v L := by
  refine ⟨hg.heap h.self, ⟨h.own.1, ?_⟩, fun m hm => ?_, h.base, Nat.le_trans h.room hg.size⟩
  · rcases h.own.2 with h1 | ⟨g, cap, cur, h1, h2, h3, h4⟩
    · exact .inl h1
    · exact .inr ⟨g, cap, cur, h1, h2, hg.heap h3, h4⟩
  · rcases h.msg m hm with h1 | ⟨b, c, arr, h1, h2, h3⟩
    · exact .inl h1
    · exact .inr ⟨b, c, arr, h1, hg.heap h2, h3⟩

/-- Under the net's turns. -/
theorem RefAt.keepN {B : Nat} {w w' : World} {q : Nat} {nodes bound time : Int} {v : Value} {L : List RM} (h : RefAt B w q nodes bound time v L) (hk : Keep softN B w w') : RefAt B w' q nodes bound time v L := by
  refine ⟨hk.hard _ _ h.self (not_softN (by decide) _ _), ⟨h.own.1, ?_⟩, fun m hm => oBytes_hard (h.msg m hm) hk, h.base, Nat.le_trans h.room hk.size⟩
  rcases h.own.2 with h1 | ⟨g, cap, cur, h1, h2, h3, h4⟩
  · exact .inl h1
  · exact .inr ⟨g, cap, cur, h1, h2, hk.hard _ _ h3 (not_softN (by decide) _ _), h4⟩

/-- The net under the turns of the document's net. -/
theorem NetSame.keepR {B : Nat} {w w' : World} (hk : Keep softR B w w') : NetSame w w' := by
  refine ⟨hk.size, fun b o hb ho => hk.hard b o hb ?_⟩
  rcases ho with ⟨es, c, rfl⟩ | ⟨a, t, f, rfl, ht⟩
  · rintro (⟨_, _, e⟩ | ⟨_, _, e⟩) <;> cases e
  · refine not_softR ?_ ?_ _ _ <;> rcases ht with rfl | rfl | rfl <;> decide

theorem Try.info31 : (Try.prog.info? 31).map (fun i => (i.zero, i.size, i.bytes)) = some (some (.agg #[.int .i64 0, .int .i64 0, .slice none 0 0]), 3, 40) := by kernel_rfl

theorem rcells_append (L : List RM) (m : RM) : rcells (L ++ [m]) = rcells L ++ m.cells := by simp [rcells]

theorem setCell_setO {w : World} {q : Nat} {arr : Array Value} {t : TypeId} {f : Nat × Nat} (h : w.heap[q]? = some (.cells arr t f)) (i : Nat) (v : Value) : w.setCell ⟨q, i, none⟩ v = setO w q (.cells (arr.setIfInBounds i v) t f) := by
  have hq := lt_of_getElem? h
  simp only [World.setCell, setO]
  congr 1
  apply Array.ext_getElem?
  intro j
  rw [Array.getElem?_modify, Array.getElem?_setIfInBounds]
  by_cases e : q = j
  · subst e; rw [h]; simp [hq]
  · simp [e]

/-- The steps of 'n.L = append(n.L, m)'. -/
theorem ref_push {B : Nat} {w : World} {q : Nat} {nodes bound time : Int} {v : Value} {L : List RM} (h : RefAt B w q nodes bound time v L) (m : RM) (hm : OBytes 5 w m.val m.bytes) (hm1 : m.val.oneCell' = true)
    {nb : Nat} {f : Nat × Nat} {E' : TypeId} (hnb : w.heap[nb]? = some (.cells m.cells.toArray E' f)) (hlen : L.length < 1000000000) :
    ∃ g cap W2, (Builtin.append_ #[59, 59] 59 #[v, .slice (some ⟨nb, 0, none⟩) 1 1]).run Try.prog w = .ok (.slice (some ⟨g, 0, none⟩) (L.length + 1) cap) W2 ∧ Keep softR B w W2 ∧
      W2.heap[q]? = some (.cells #[.int .i64 nodes, .int .i64 bound, .int .i64 time, v] 61 (0, 0)) ∧
      RefAt B (W2.setCell ⟨q, 3, none⟩ (.slice (some ⟨g, 0, none⟩) (L.length + 1) cap)) q nodes bound time (.slice (some ⟨g, 0, none⟩) (L.length + 1) cap) (L ++ [m]) ∧ (∀ b, b < w.heap.size → v.ownBlock ≠ some b → W2.heap[b]? = w.heap[b]?) ∧
      Keep softR B w (W2.setCell ⟨q, 3, none⟩ (.slice (some ⟨g, 0, none⟩) (L.length + 1) cap)) := by
  obtain ⟨i0, hi0, hz0, hz1, hz2⟩ := info_parts Try.info31
  have hroom := h.room
  obtain ⟨g, cap, W2, hrun, hown, hgr, hloc, hlt⟩ := run_append_lies w 59 59 B 31 i0 _ 3 40 Try.underlying59 hi0 hz0 hz1 hz2 rfl (by decide) v L.length (rcells L) h.own
    ⟨nb, 0, none⟩ 1 1 m.cells (by simp [RM.cells]) (fun j u hu => World.news_of_block hnb j u (by simpa using hu)) (fun u hu => by simp only [RM.cells, List.mem_cons, List.not_mem_nil, or_false] at hu; rcases hu with rfl | rfl | rfl <;> first | rfl | exact hm1) (by decide) (by unfold maxLen; omega) (by omega) (by omega) _ rfl
  have hrow : ∀ k o, v.ownBlock = some k → w.heap[k]? = some o → softR o ∧ B ≤ k := fun k o hk ho => by
    rcases h.own.2 with ⟨rfl, _⟩ | ⟨g0, cap0, cur, rfl, h2, h3, _⟩
    · cases hk
    · cases hk
      rw [h3] at ho; cases ho
      exact ⟨softR_row _ _, h2⟩
  have hq61 : v.ownBlock ≠ some q := fun e => by
    rcases h.own.2 with ⟨rfl, _⟩ | ⟨g0, cap0, cur, rfl, h2, h3, _⟩
    · cases e
    · cases e
      rw [h.self] at h3; cases h3
  have hK2 : Keep softR B w W2 := Keep.grown hgr (fun k hk => (h.own.lt k hk).1) hroom (fun k o hk ho => (hrow k o hk ho).1)
  have hq2 : W2.heap[q]? = some (.cells #[.int .i64 nodes, .int .i64 bound, .int .i64 time, v] 61 (0, 0)) := by
    rw [hgr.block q (lt_of_getElem? h.self) (fun e => hq61 e.symm), h.self]
  have hgq : g ≠ q := fun e => by
    rcases hloc with h1 | h1
    · exact hq61 (by rw [h1, e])
    · have := lt_of_getElem? h.self; omega
  have hset : W2.setCell ⟨q, 3, none⟩ (.slice (some ⟨g, 0, none⟩) (L.length + 1) cap) = setO W2 q (.cells #[.int .i64 nodes, .int .i64 bound, .int .i64 time, .slice (some ⟨g, 0, none⟩) (L.length + 1) cap] 61 (0, 0)) := by
    exact setCell_setO hq2 _ _
  refine ⟨g, cap, W2, hrun, hK2, hq2, ?_, fun b hb hne => hgr.block b hb (fun e => hne e.symm), ?_⟩
  · rw [hset]
    have hK3 : Keep softR B W2 (setO W2 q (.cells #[.int .i64 nodes, .int .i64 bound, .int .i64 time, .slice (some ⟨g, 0, none⟩) (L.length + 1) cap] 61 (0, 0))) := Keep.setO hq2 (softR_net _ _) h.base
    refine ⟨setO_same (lt_of_getElem? hq2), ?_, fun m' hm' => ?_, h.base, Nat.le_trans hroom (by simpa [setO] using hK2.size)⟩
    · rw [rcells_append, List.length_append]
      refine ⟨hown.1, ?_⟩
      rcases hown.2 with h1 | ⟨g', cap', cur, h1, h2, h3, h4⟩
      · exact .inl h1
      · refine .inr ⟨g', cap', cur, h1, h2, ?_, h4⟩
        cases h1
        rw [setO_other hgq, h3]
    · rcases List.mem_append.1 hm' with h1 | h1
      · exact oBytes_hardR (oBytes_hardR (h.msg m' h1) hK2) hK3
      · have : m' = m := by simpa using h1
        subst this
        exact oBytes_hardR (oBytes_hardR hm hK2) hK3
  · rw [hset]
    exact hK2.trans (Keep.setO hq2 (softR_net _ _) h.base)

/-- 'append([]byte{}, s...)'. -/
theorem run_copy_any {w : World} {b0 : Nat} (hb0 : w.heap[b0]? = some (.cells #[] 5 (0, 0))) {v : Value} {l : List UInt8} (h : BytesA w v l) (hmax : l.length ≤ 140737488355328) :
    ∃ a c W', (Builtin.append_ #[22, 22] 22 #[.slice (some ⟨b0, 0, none⟩) 0 0, v]).run Try.prog w = .ok (.slice (some ⟨a, 0, none⟩) l.length c) W' ∧ OBytes 5 W' (.slice (some ⟨a, 0, none⟩) l.length c) l ∧ Grow w W' := by
  rcases h with ⟨rfl, a, c, rfl⟩ | ⟨rfl, rfl⟩ | ⟨b, o, c, rfl, hb, hc⟩
  · exact ⟨_, _, _, run_append_copy_zero Try.underlying22 Try.info5 (.inr ⟨_, _, rfl⟩), .inr ⟨b0, 0, #[], rfl, hb0, rfl, fun i x hx => by simp at hx⟩, Grow.refl _⟩
  · exact ⟨_, _, _, run_append_copy_zero Try.underlying22 Try.info5 (.inl rfl), .inr ⟨b0, 0, #[], rfl, hb0, rfl, fun i x hx => by simp at hx⟩, Grow.refl _⟩
  · cases l with
    | nil => exact ⟨_, _, _, run_append_copy_zero Try.underlying22 Try.info5 (.inr ⟨_, _, rfl⟩), .inr ⟨b0, 0, #[], rfl, hb0, rfl, fun i x hx => by simp at hx⟩, Grow.refl _⟩
    | cons x l =>
      obtain ⟨cap, hcap, hrun⟩ := run_append_copy (P := Try.prog) (w := w) (t := 22) (E := 5) (ty := 22) (b0 := b0) (c := c) Try.underlying22 Try.info5 (by simp) hmax hc
      exact ⟨_, _, _, hrun, oBytes_new (w := w.drew) hcap rfl, (Grow.drew _).trans (Grow.alloc _ _)⟩

/-- A literal slice of one struct. -/
theorem run_buildSliceM {w : World} (f t : Int) (a : Option Addr) (n c : Nat) :
    (Instr.buildSlice 59 1 #[(0, .agg #[.int .i64 f, .int .i64 t, .slice a n c])]).run Try.prog w = .ok (.slice (some ⟨w.heap.size, 0, none⟩) 1 1) (w.alloc (.cells #[.int .i64 f, .int .i64 t, .slice a n c] 31)) := by
  obtain ⟨i0, hi0, hz0, hz1, _⟩ := info_parts Try.info31
  simp [Instr.buildSlice, run_underlying Try.underlying59, sizeOf, typeInfo, hi0, hz1, zeroValue, hz0, Instr.fill, newRow, Value.cells]
  congr 2
  apply Array.ext
  · simp
  · intro i h1 h2
    simp at h1
    match i, h1 with
    | 0, _ => simp
    | 1, _ => simp
    | 2, _ => simp
end Go.Proofs.Ytbanfilgokideaa
