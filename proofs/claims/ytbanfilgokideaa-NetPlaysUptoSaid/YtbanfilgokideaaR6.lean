/- The document's net: a message is taken out. -/
import Derived.Test.YtbanfilgokideaaR5
namespace Go.Proofs.Ytbanfilgokideaa
open Go.RowKit Go.Gl

theorem rcells_app (A C : List RM) : rcells (A ++ C) = rcells A ++ rcells C := by simp [rcells]

theorem rcells_take {L : List RM} {i j : Nat} {u : Value} (h : (rcells (L.take i))[j]? = some u) : (rcells L)[j]? = some u := by
  rw [← List.take_append_drop i L, rcells_app]
  exact getElem?_append_mid _ _ _ _ h

theorem rcells_drop {L : List RM} {i j : Nat} {u : Value} (hi : i ≤ L.length) (h : (rcells (L.drop i))[j]? = some u) : (rcells L)[i * 3 + j]? = some u := by
  have e : rcells L = rcells (L.take i) ++ rcells (L.drop i) := by rw [← rcells_app, List.take_append_drop]
  rw [e, List.getElem?_append_right (by rw [rcells_len, List.length_take]; omega), rcells_len, List.length_take]
  rw [← h]; congr 1; omega

theorem rcells_one {L : List RM} (h : ∀ m ∈ L, m.val.oneCell' = true) : ∀ u ∈ rcells L, u.oneCell' = true := by
  intro u hu
  unfold rcells at hu
  obtain ⟨m, hm, hu⟩ := List.mem_flatMap.1 hu
  simp only [RM.cells, List.mem_cons, List.not_mem_nil, or_false] at hu
  rcases hu with rfl | rfl | rfl
  · rfl
  · rfl
  · exact h m hm

theorem RefAt.ones {B : Nat} {w : World} {q : Nat} {nodes bound time : Int} {v : Value} {L : List RM} (h : RefAt B w q nodes bound time v L) : ∀ m ∈ L, m.val.oneCell' = true := fun m hm => by
  obtain ⟨a, n, c, e⟩ := oBytes_slice (h.msg m hm)
  rw [e]; rfl

/-- The steps of 'n.L = append(append([]Message{}, n.L[:i]...), n.L[i+1:]...)'. -/
theorem ref_take {B : Nat} {w : World} {q : Nat} {nodes bound time : Int} {g cap : Nat} {L : List RM} (h : RefAt B w q nodes bound time (.slice (some ⟨g, 0, none⟩) L.length cap) L) {i : Nat} (hi : i < L.length)
    {nb : Nat} (hnb : w.heap[nb]? = some (.cells #[] 31 (0, 0))) (hBn : B ≤ nb) (hng : nb ≠ g) (hlen : L.length < 1000000000) (ad : Option Addr) (had : ad = some ⟨g, (i + 1) * 3, none⟩ ∨ (∃ x, ad = some x) ∧ L.length = i + 1) :
    ∃ v1 W1, (Builtin.append_ #[59, 59] 59 #[.slice (some ⟨nb, 0, none⟩) 0 0, .slice (some ⟨g, 0, none⟩) i cap]).run Try.prog w = .ok v1 W1 ∧ Below B w W1 ∧ (∀ b, b < w.heap.size → b ≠ nb → W1.heap[b]? = w.heap[b]?) ∧
    ∃ a2 n2 c2 W2, (Builtin.append_ #[59, 59] 59 #[v1, .slice ad (L.length - (i + 1)) (cap - (i + 1))]).run Try.prog W1 = .ok (.slice a2 n2 c2) W2 ∧ Below B w W2 ∧ (∀ b, b < w.heap.size → b ≠ nb → W2.heap[b]? = w.heap[b]?) ∧
      RefAt B (W2.setCell ⟨q, 3, none⟩ (.slice a2 n2 c2)) q nodes bound time (.slice a2 n2 c2) (L.eraseIdx i) ∧ ∀ b, (Value.slice a2 n2 c2).ownBlock = some b → b = nb ∨ w.heap.size ≤ b := by
  obtain ⟨i0, hi0, hz0, hz1, hz2⟩ := info_parts Try.info31
  obtain ⟨x, rfl, hx⟩ : ∃ x, ad = some x ∧ (x = ⟨g, (i + 1) * 3, none⟩ ∨ L.length = i + 1) := by
    rcases had with h1 | ⟨⟨x, h1⟩, h2⟩
    · exact ⟨_, h1, .inl rfl⟩
    · exact ⟨x, h1, .inr h2⟩
  have hroom := h.room
  have hgb := h.own.lt g rfl
  have hcells := h.own.cells (g := g) rfl
  have hown0 : w.ownsRow B 31 3 (.slice (some ⟨nb, 0, none⟩) 0 0) 0 [] := ⟨rfl, .inr ⟨nb, 0, #[], rfl, hBn, hnb, Nat.le_refl _, Nat.zero_le _, rfl, rfl⟩⟩
  obtain ⟨v1, W1, hrun1, hown1, hgr1, _, hloc1⟩ := run_append_own_at (P := Try.prog) w B 59 59 31 i0 _ 3 40 Try.underlying59 hi0 hz0 hz1 hz2 rfl (by decide) _ 0 [] hown0 ⟨g, 0, none⟩ i cap (rcells (L.take i))
    (by rw [rcells_len, List.length_take]; congr 1; omega) (fun j u hu => hcells j u (rcells_take hu)) (rcells_one fun m hm => h.ones m (List.mem_of_mem_take hm)) (by unfold maxLen; omega) (by omega) hroom
  have hk1 : ∀ b, b < w.heap.size → b ≠ nb → W1.heap[b]? = w.heap[b]? := fun b hb hne => hgr1.block b hb (fun e => hne (Option.some.inj e))
  have hb1 : Below B w W1 := ⟨hgr1.os, hgr1.tape, hgr1.output, hgr1.size, fun b hb => hk1 b (by omega) (by omega)⟩
  have hs1 := hgr1.size
  obtain ⟨v2, W2, hrun2, hown2, hgr2, _, hloc2⟩ := run_append_own_at (P := Try.prog) W1 B 59 59 31 i0 _ 3 40 Try.underlying59 hi0 hz0 hz1 hz2 rfl (by decide) _ _ _ hown1 x (L.length - (i + 1)) (cap - (i + 1)) (rcells (L.drop (i + 1)))
    (by rw [rcells_len, List.length_drop]) (fun j u hu => by
      rcases hx with rfl | hx
      · have := hcells _ u (rcells_drop (by omega) hu)
        rw [Addr.add_lit] at this ⊢
        rw [← this, Nat.zero_add]
        exact World.cell?_of_block (hk1 g hgb.2 (fun e => hng e.symm))
      · rw [List.drop_eq_nil_of_le (by omega)] at hu
        simp [rcells] at hu) (rcells_one fun m hm => h.ones m (List.mem_of_mem_drop hm)) (by unfold maxLen; omega) (by omega) (by omega)
  have hv1 : ∀ b, v1.ownBlock = some b → b = nb ∨ w.heap.size ≤ b := fun b hb => by
    rcases hloc1 with e | e
    · rw [hb] at e; left; exact Option.some.inj e
    · rw [hb] at e; right; have := Option.some.inj e; omega
  have hk2 : ∀ b, b < w.heap.size → b ≠ nb → W2.heap[b]? = w.heap[b]? := fun b hb hne => by
    rw [hgr2.block b (by omega) (fun e => by rcases hv1 b e.symm with h1 | h1 <;> omega), hk1 b hb hne]
  have hb2 : Below B w W2 := ⟨hgr2.os.trans hgr1.os, hgr2.tape.trans hgr1.tape, hgr2.output.trans hgr1.output, Nat.le_trans hgr1.size hgr2.size, fun b hb => hk2 b (by omega) (by omega)⟩
  have hqlt := lt_of_getElem? h.self
  have hqnb : q ≠ nb := fun e => by have := h.self; rw [e, hnb] at this; cases this
  have hq2 : W2.heap[q]? = some (.cells #[.int .i64 nodes, .int .i64 bound, .int .i64 time, .slice (some ⟨g, 0, none⟩) L.length cap] 61 (0, 0)) := by rw [hk2 q hqlt hqnb, h.self]
  obtain ⟨a2, n2, c2, hv2⟩ : ∃ a n c, v2 = .slice a n c := by
    rcases hown2.2 with ⟨e, _⟩ | ⟨_, _, _, e, _⟩ <;> exact ⟨_, _, _, e⟩
  subst hv2
  refine ⟨v1, W1, hrun1, hb1, hk1, a2, n2, c2, W2, hrun2, hb2, hk2, ?_, fun b hb => (by
    rcases hloc2 with e | e
    · rw [hb] at e; exact hv1 b e.symm
    · rw [hb] at e; have := Option.some.inj e; right; omega)⟩
  rw [setCell_setO hq2]
  refine ⟨setO_same (lt_of_getElem? hq2), ?_, fun m hm => ?_, h.base, Nat.le_trans hroom (by simpa [setO] using hb2.size)⟩
  · have e1 : rcells (L.eraseIdx i) = [] ++ rcells (L.take i) ++ rcells (L.drop (i + 1)) := by rw [List.eraseIdx_eq_take_drop_succ, rcells_app]; simp
    have e2 : (L.eraseIdx i).length = 0 + i + (L.length - (i + 1)) := by rw [List.length_eraseIdx, if_pos hi]; omega
    rw [e1, e2]
    refine ⟨hown2.1, ?_⟩
    rcases hown2.2 with h1 | ⟨g', cap', cur, h1, h2, h3, h4⟩
    · exact .inl h1
    · refine .inr ⟨g', cap', cur, h1, h2, ?_, h4⟩
      rw [setO_other (fun e => by rw [e, hq2] at h3; cases h3), h3]
  · have hm' : m ∈ L := List.mem_of_mem_eraseIdx hm
    rcases h.msg m hm' with h1 | ⟨b, c, arr, h1, h2, h3⟩
    · exact .inl h1
    · refine .inr ⟨b, c, arr, h1, ?_, h3⟩
      rw [setO_other (fun e => by rw [e, h.self] at h2; cases h2), hk2 b (lt_of_getElem? h2) (fun e => by rw [e, hnb] at h2; cases h2), h2]

/-- A store into a box of the same kind as the row. -/
theorem RefAt.setCell {B : Nat} {w : World} {q : Nat} {nodes bound time : Int} {v : Value} {L : List RM} (h : RefAt B w q nodes bound time v L) {b0 j : Nat} {arr : Array Value} {fr : Nat × Nat} (hb : w.heap[b0]? = some (.cells arr 31 fr)) (hne : v.ownBlock ≠ some b0) (x : Value) :
    RefAt B (w.setCell ⟨b0, j, none⟩ x) q nodes bound time v L ∧ (w.setCell ⟨b0, j, none⟩ x).heap[b0]? = some (.cells (arr.setIfInBounds j x) 31 fr) := by
  rw [setCell_setO hb]
  refine ⟨⟨?_, ⟨h.own.1, ?_⟩, fun m hm => ?_, h.base, by simpa [setO] using h.room⟩, setO_same (lt_of_getElem? hb)⟩
  · rw [setO_other (fun e => by have := h.self; rw [e, hb] at this; cases this), h.self]
  · rcases h.own.2 with h1 | ⟨g, cap, cur, h1, h2, h3, h4⟩
    · exact .inl h1
    · refine .inr ⟨g, cap, cur, h1, h2, ?_, h4⟩
      rw [setO_other (fun e => hne (by rw [h1, ← e]; rfl)), h3]
  · rcases h.msg m hm with h1 | ⟨b, c, arr', h1, h2, h3⟩
    · exact .inl h1
    · refine .inr ⟨b, c, arr', h1, ?_, h3⟩
      rw [setO_other (fun e => by rw [e, hb] at h2; cases h2), h2]

/-- Below B, and all old blocks but q, are as they were. -/
def KeepQ (B q : Nat) (w w' : World) : Prop := Below B w w' ∧ ∀ (b : Nat) (o : Obj), w.heap[b]? = some o → b ≠ q → w'.heap[b]? = some o

theorem KeepQ.setCell {B q : Nat} {w w' : World} (h : KeepQ B q w w') {b0 j : Nat} {x : Value} (hb : w.heap.size ≤ b0) (hB : B ≤ w.heap.size) : KeepQ B q w (w'.setCell ⟨b0, j, none⟩ x) := by
  refine ⟨h.1.setCell (show B ≤ b0 by omega) _, fun b o hb' hne => ?_⟩
  rw [Below.heap_setCell _ _ _ _ (show b ≠ b0 by have := lt_of_getElem? hb'; omega)]
  exact h.2 b o hb' hne
end Go.Proofs.Ytbanfilgokideaa
