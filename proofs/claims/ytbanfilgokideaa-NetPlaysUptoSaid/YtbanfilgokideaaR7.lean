/- The document's net: Deliver. -/
import Derived.Test.YtbanfilgokideaaR6
namespace Go.Proofs.Ytbanfilgokideaa
open Go.RowKit Go.Gl

/-- What the document's Deliver tells. -/
def RDelivered (B : Nat) (w : World) (q : Nat) (nodes bound time : Int) (L : List RM) (f t pick : Int) (e : Ending) (w' : World) : Prop :=
  (ofL (f, t) L = [] ∧ e = .returned (.tuple #[.agg #[.int .i64 0, .int .i64 0, .slice none 0 0], .bool false]) ∧ Grow w w') ∨
  ∃ (i : Nat) (m : RM), L[i]? = some m ∧ m.frm = f ∧ m.to = t ∧ 0 < (ofL (f, t) L).length ∧ ((ofL (f, t) (L.take i)).length : Int) = max pick 0 % ((ofL (f, t) L).length : Int) ∧
    e = .returned (.tuple #[.agg #[.int .i64 f, .int .i64 t, m.val], .bool true]) ∧ KeepQ B q w w' ∧ ∃ v', RefAt B w' q nodes bound time v' (L.eraseIdx i)

set_option maxRecDepth 100000 in
set_option maxHeartbeats 2000000 in
theorem rdeliver_any {B : Nat} {w : World} {q : Nat} {nodes bound time : Int} {v : Value} {L : List RM} (h : RefAt B w q nodes bound time v L) (hmax : L.length < 1000000000) (f t pick : Int) (hpk : pick ≤ 9223372036854775807) :
    Calls Try.prog 22 #[.pointer (some ⟨q, 0, none⟩), .int .i64 f, .int .i64 t, .int .i64 pick] w (RDelivered B w q nodes bound time L f t pick) := by
  have H := Lib.hid h
  clear h
  go_enter Try.func22, Try.ntmps22
  go_wp2_with fail
  (with_reducible refine (rmeant_any (H.out.grow (Grow.alloc _ _)) (by omega) _ _ _ hpk).mono ?_)
  rintro e w1 ⟨⟨h0, rfl⟩ | ⟨i, m, rfl, hm, hf, ht, hpos, hpick⟩, hg1⟩
  · have H0 := Lib.hid h0
    clear h0
    obtain ⟨d0, d1, d2, f0, f1, f2⟩ := cells3 (hg1.heap (heap_alloc_new w _))
    have l0 := World.block_lt_of_cell? w1 _ d0
    dsimp only at l0
    go_wp2
    exact bodyPost_ret (v := .tuple #[.agg #[.int .i64 0, .int .i64 0, .slice none 0 0], .bool false]) (by simp [results, Try.results22, go_sem, *]) rfl (.inl ⟨H0.out, rfl, by have hgw : Below w.heap.size w w1 := (Grow.alloc _ _).trans hg1; (repeat (first | exact Below.refl _ _ | assumption | refine Below.drew ?_ | refine bDrewN ?_ | refine Below.setCell ?_ (by first | omega | (simp <;> omega)) _ | refine Below.alloc ?_ (by first | omega | (simp <;> omega)) _))⟩)
  · have hgw : Grow w w1 := (Grow.alloc _ _).trans hg1
    have HR := Lib.hid (H.out.grow hgw)
    obtain ⟨k0, k1, k2, k3⟩ := HR.out.cells
    obtain ⟨a, c, hv, hrow⟩ := HR.out.form
    have hil : i < L.length := (List.getElem?_eq_some_iff.1 hm).1
    obtain ⟨g, rfl, hgs, hcs⟩ := hrow (by omega)
    obtain ⟨c0, c1, c2⟩ := hcs i m hm
    have hmem : m ∈ L := List.mem_of_getElem? hm
    obtain ⟨ba, bl, bc, hmv⟩ := oBytes_slice (HR.out.msg m hmem)
    rw [hmv] at c2
    rw [hf] at c0
    rw [ht] at c1
    subst hv
    have hgc : L.length ≤ c ∧ c ≤ maxLen := by
      rcases HR.out.own.2 with ⟨e, _⟩ | ⟨g', cap', cur, e, _, _, h4, h5, _⟩
      · cases e
      · cases e; exact ⟨h4, h5⟩
    obtain ⟨hc1, hc2⟩ := hgc
    unfold maxLen at hc2
    have Hm := Lib.hid hm
    have Hf := Lib.hid hf
    have Ht := Lib.hid ht
    have Hpos := Lib.hid hpos
    have Hpick := Lib.hid hpick
    have Hmv := Lib.hid hmv
    have hi1 : (i : Int) < (L.length : Int) := by omega
    have hi0 : (0 : Int) ≤ (i : Int) := by omega
    have hb8 : w1.heap[w.heap.size]? = some (.cells #[.int .i64 0, .int .i64 0, .slice none 0 0] 31 (0, 0)) := hg1.heap (heap_alloc_new w _)
    have Hb8 := Lib.hid hb8
    have l8 := lt_of_getElem? hb8
    have Hgw := Lib.hid hgw
    clear hm hf ht hpos hpick hmv hmem hcs hrow hg1 hb8
    go_wp2_with fail
    have hb11 : (w1.alloc (.cells #[.int .i64 f, .int .i64 t, .slice ba bl bc] 31)).heap[w1.heap.size]? = some (.cells #[.int .i64 f, .int .i64 t, .slice ba bl bc] 31 (0, 0)) := heap_alloc_new w1 _
    have hgx : Grow w1 (w1.alloc (.cells #[.int .i64 f, .int .i64 t, .slice ba bl bc] 31)) := Grow.alloc _ _
    have hb8x : (w1.alloc (.cells #[.int .i64 f, .int .i64 t, .slice ba bl bc] 31)).heap[w.heap.size]? = some (.cells #[.int .i64 0, .int .i64 0, .slice none 0 0] 31 (0, 0)) := hgx.heap Hb8.out
    have HR4 := Lib.hid (HR.out.grow hgx)
    have Hg4 := Lib.hid (Hgw.out.trans hgx)
    clear hgx
    have hr11 : w.heap.size ≤ w1.heap.size := by omega
    revert hb11 hb8x HR4 Hg4
    generalize w1.alloc (.cells #[.int .i64 f, .int .i64 t, .slice ba bl bc] 31) = w4
    intro hb11 hb8x HR4 Hg4
    have Hb11 := Lib.hid hb11
    have Hb8x := Lib.hid hb8x
    clear hb11 hb8x k0 k1 k2 k3 c0 c1 c2
    obtain ⟨k0, k1, k2, k3⟩ := HR4.out.cells
    have hq4 : q < w4.heap.size := lt_of_getElem? HR4.out.self
    have HS : Hid (∀ W : World, W.heap[q]? = w4.heap[q]? → W.cell? ⟨q, 3, none⟩ = some (.slice (some ⟨g, 0, none⟩) L.length c)) :=
      Lib.hid fun W h1 => by rw [← k3]; simp only [World.cell?, h1]
    have hwi : IntKind.i64.wrap ((i : Int) + 1) = (i : Int) + 1 := IntWalk.i64_in _ (by omega)
    have hi2 : (i : Int) + 1 ≤ (L.length : Int) := by omega
    have hi3 : (i : Int) ≤ (c : Int) := by omega
    have hi4 : (0 : Int) ≤ (i : Int) + 1 := by omega
    clear k0 k1 k2 k3
    refine wp_region_last (fun W => W.cell? ⟨q, 3, none⟩ = some (.slice (some ⟨g, 0, none⟩) L.length c)) [(0, false), (2, false), (3, false), (4, false), (5, false), (6, false), (7, false), (9, false), (10, false), (11, false), (12, false), (13, false), (14, false), (15, false), (1, true), (8, true), (16, true), (17, false), (18, false)] 19 (by kernel_rfl) (by kernel_rfl) (fun c a d v w h => by cases d <;> exact h) (HS.out _ rfl) ?_
    simp only [arrange, nth]
    repeat (first | (refine wpPi_quiet (v := ?_) (by rfl) (fun W hW => ?_) ?_; rotate_left; (obtain s0 := hW; go_simp; with_reducible rfl); simp only [Act.put, List.setIfInBounds_toArray, List.set_cons_zero, List.set_cons_succ]) | (refine wpPi_off (by rfl) ?_; simp only [Act.put, List.setIfInBounds_toArray, List.set_cons_zero, List.set_cons_succ]))
    have hal : (w4.drew.alloc (.cells #[] 31)).heap[w4.heap.size]? = some (.cells #[] 31 (0, 0)) := heap_alloc_new w4.drew _
    have hg5 : Grow w4 (w4.drew.alloc (.cells #[] 31)) := by (repeat (first | exact Below.refl _ _ | assumption | refine Below.drew ?_ | refine bDrewN ?_ | refine Below.setCell ?_ (by first | omega | (simp <;> omega)) _ | refine Below.alloc ?_ (by first | omega | (simp <;> omega)) _))
    have hg4s := Hg4.out.size
    have hgg : g < w4.heap.size := by have := (HR4.out.own.lt g rfl).2; omega
    have hBw := H.out.room
    obtain ⟨v1, w6, hrun1, hb6, hk6, a2, n2, c2', w7, hrun2, hb7, hk7, hR7, hloc⟩ := ref_take (HR4.out.grow hg5) hil hal (by omega) (by omega) hmax (if c = i + 1 then some ⟨g, 0, none⟩ else some ⟨g, (i + 1) * 3, none⟩) (by
      by_cases hci : c = i + 1
      · rw [if_pos hci]; exact .inr ⟨⟨_, rfl⟩, by omega⟩
      · rw [if_neg hci]; exact .inl rfl)
    have hw5 : (w4.drew.alloc (.cells #[] 31)).heap.size = w4.heap.size + 1 := by simp
    have hq5 : (w4.drew.alloc (.cells #[] 31)).heap[q]? = w4.heap[q]? := heap_alloc_old w4.drew _ hq4
    refine wpPi_act (by rfl) (fun K hK => ?_)
    go_simp
    refine hK _ _ ⟨HS.out _ hq5, ?_⟩
    clear hK K
    try simp only [Act.put, List.setIfInBounds_toArray, List.set_cons_zero, List.set_cons_succ]
    refine wpPi_run (by rfl) (execOp_append rfl rfl rfl hrun1) (HS.out _ (by rw [hk6 q (by omega) (by omega), hq5])) ?_
    try simp only [Act.put, List.setIfInBounds_toArray, List.set_cons_zero, List.set_cons_succ]
    refine wpPi_run (by rfl) (execOp_append rfl rfl rfl hrun2) (HS.out _ (by rw [hk7 q (by omega) (by omega), hq5])) ?_
    try simp only [Act.put, List.setIfInBounds_toArray, List.set_cons_zero, List.set_cons_succ]
    have q3 : w7.heap[q]? = some (.cells #[.int .i64 nodes, .int .i64 bound, .int .i64 time, .slice (some ⟨g, 0, none⟩) L.length c] 61 (0, 0)) := by rw [hk7 q (by omega) (by omega), hq5, HR4.out.self]
    have q3c : w7.cell? ⟨q, 3, none⟩ = some (.slice (some ⟨g, 0, none⟩) L.length c) := by simp [World.cell?, q3]
    have q3f : w7.frozen? ⟨q, 3, none⟩ = false := by simp [World.frozen?, q3]
    repeat (first | (refine wpPi_quiet (v := ?_) (by rfl) (fun W hW => ?_) ?_; rotate_left; (obtain s0 := hW; go_simp; with_reducible rfl); simp only [Act.put, List.setIfInBounds_toArray, List.set_cons_zero, List.set_cons_succ]) | (refine wpPi_off (by rfl) ?_; simp only [Act.put, List.setIfInBounds_toArray, List.set_cons_zero, List.set_cons_succ]))
    refine wpPi_nil ?_
    refine lastQ_act (by rfl) (fun K hK => ?_)
    go_simp
    refine hK _ _ ?_
    clear hK K
    try simp only [Act.put, List.setIfInBounds_toArray, List.set_cons_zero, List.set_cons_succ]
    have hk8 : ∀ (b : Nat) (o : Obj), w4.heap[b]? = some o → b ≠ q → (w7.setCell ⟨q, 3, none⟩ (.slice a2 n2 c2')).heap[b]? = some o := fun b o hb hne => by
      have hlt := lt_of_getElem? hb
      rw [Below.heap_setCell _ _ _ _ hne, hk7 b (by omega) (by omega)]
      exact hg5.heap hb
    have hwq : w.heap.size ≠ q := fun e => by have := lt_of_getElem? H.out.self; omega
    have hw1q : w1.heap.size ≠ q := fun e => by have := lt_of_getElem? H.out.self; omega
    have e8 := hk8 _ _ Hb8x.out hwq
    have e11 := hk8 _ _ Hb11.out hw1q
    have hKQ : KeepQ B q w (w7.setCell ⟨q, 3, none⟩ (.slice a2 n2 c2')) := by
      refine ⟨?_, fun b o hb hne => hk8 b o (Hg4.out.heap hb) hne⟩
      refine Below.setCell ?_ H.out.base _
      exact ((Hg4.out.mono H.out.room).trans (hg5.mono (by omega))).trans hb7
    have hw14 := lt_of_getElem? Hb11.out
    have hno8 : (Value.slice a2 n2 c2').ownBlock ≠ some w.heap.size := fun e => by
      rcases hloc _ e with h1 | h1 <;> omega
    have HR8 := Lib.hid hR7
    have HKQ := Lib.hid hKQ
    have Hno8 := Lib.hid hno8
    clear hk8 hR7 hKQ hloc hk7 hk6 hb6 hb7 hrun1 hrun2 q3 q3c q3f hal hq5 hno8
    revert e8 e11 HR8 HKQ
    generalize w7.setCell ⟨q, 3, none⟩ (.slice a2 n2 c2') = w8
    intro e8 e11 HR8 HKQ
    obtain ⟨d0, d1, d2, f0, f1, f2⟩ := cells3 e8
    obtain ⟨g0, g1, g2, _, _, _⟩ := cells3 e11
    have l8' := lt_of_getElem? e8
    have l11' := lt_of_getElem? e11
    have hne811 : w.heap.size ≠ w1.heap.size := by omega
    have He8 := Lib.hid e8
    clear e8 e11 hg5
    generalize (if c = i + 1 then some (⟨g, 0, none⟩ : Addr) else some ⟨g, (i + 1) * 3, none⟩) = ad
    go_wp2
    refine bodyPost_ret (v := .tuple #[.agg #[.int .i64 f, .int .i64 t, .slice ba bl bc], .bool true]) (by simp [results, Try.results22, go_sem, *]) rfl ?_
    refine .inr ⟨i, m, Hm.out, Hf.out, Ht.out, Hpos.out, Hpick.out, by rw [Hmv.out], ?_, .slice a2 n2 c2', ?_⟩
    · exact ((HKQ.out.setCell (Nat.le_refl _) H.out.room).setCell (Nat.le_refl _) H.out.room).setCell (Nat.le_refl _) H.out.room
    · obtain ⟨r1, t1⟩ := HR8.out.setCell (j := 0) He8.out Hno8.out (.int .i64 f)
      obtain ⟨r2, t2⟩ := r1.setCell (j := 1) t1 Hno8.out (.int .i64 t)
      exact (r2.setCell (j := 2) t2 Hno8.out (.slice ba bl bc)).1
end Go.Proofs.Ytbanfilgokideaa
