/- The document's net: its block, its row of messages; how many a link has. -/
import Derived.Test.YtbanfilgokideaaN13
namespace Go.Proofs.Ytbanfilgokideaa
open Go.RowKit Go.Gl

/-- A message of the document's net. -/
structure RM where
  frm : Int
  to : Int
  val : Value
  bytes : List UInt8

def RM.cells (m : RM) : List Value := [.int .i64 m.frm, .int .i64 m.to, m.val]
def rcells (L : List RM) : List Value := L.flatMap RM.cells

theorem rcells_len (L : List RM) : (rcells L).length = L.length * 3 := by
  induction L with
  | nil => rfl
  | cons m L ih => simp only [rcells, List.flatMap_cons, List.length_append, List.length_cons] at *; rw [ih]; simp [RM.cells]; omega

theorem rcells_get : ∀ {L : List RM} {i : Nat} {m : RM}, L[i]? = some m → (rcells L)[i * 3]? = some (.int .i64 m.frm) ∧ (rcells L)[i * 3 + 1]? = some (.int .i64 m.to) ∧ (rcells L)[i * 3 + 2]? = some m.val
  | [], i, m, h => by simp at h
  | a :: L, 0, m, h => by
    simp at h; subst h
    simp [rcells, RM.cells]
  | a :: L, i + 1, m, h => by
    have := rcells_get (L := L) (i := i) (m := m) (by simpa using h)
    have e1 : (i + 1) * 3 = i * 3 + 1 + 1 + 1 := by omega
    simp only [rcells, List.flatMap_cons, RM.cells, e1, List.cons_append, List.nil_append, List.getElem?_cons_succ] at *
    exact this

structure RefAt (B : Nat) (w : World) (q : Nat) (nodes bound time : Int) (v : Value) (L : List RM) : Prop where
  self : w.heap[q]? = some (.cells #[.int .i64 nodes, .int .i64 bound, .int .i64 time, v] 61 (0, 0))
  own : w.ownsRow B 31 3 v L.length (rcells L)
  msg : ∀ m ∈ L, OBytes 5 w m.val m.bytes
  base : B ≤ q
  room : B ≤ w.heap.size

theorem RefAt.cells {B : Nat} {w : World} {q : Nat} {nodes bound time : Int} {v : Value} {L : List RM} (h : RefAt B w q nodes bound time v L) :
    w.cell? ⟨q, 0, none⟩ = some (.int .i64 nodes) ∧ w.cell? ⟨q, 1, none⟩ = some (.int .i64 bound) ∧ w.cell? ⟨q, 2, none⟩ = some (.int .i64 time) ∧ w.cell? ⟨q, 3, none⟩ = some v := by
  simp [World.cell?, h.self]

/-- The row's form. -/
theorem RefAt.form {B : Nat} {w : World} {q : Nat} {nodes bound time : Int} {v : Value} {L : List RM} (h : RefAt B w q nodes bound time v L) :
    ∃ a c, v = .slice a L.length c ∧ (0 < L.length → ∃ g, a = some ⟨g, 0, none⟩ ∧ g < w.heap.size ∧ ∀ (i : Nat) (m : RM), L[i]? = some m → w.cell? ⟨g, i * 3, none⟩ = some (.int .i64 m.frm) ∧ w.cell? ⟨g, i * 3 + 1, none⟩ = some (.int .i64 m.to) ∧ w.cell? ⟨g, i * 3 + 2, none⟩ = some m.val) := by
  rcases h.own.2 with ⟨h1, h2⟩ | ⟨g, cap, cur, h1, h2, h3, h4, h5, h6, h7⟩
  · exact ⟨none, 0, by rw [h1, h2], by omega⟩
  · refine ⟨_, _, h1, fun _ => ⟨g, rfl, lt_of_getElem? h3, fun i m hm => ?_⟩⟩
    have hi : i < L.length := (List.getElem?_eq_some_iff.1 hm).1
    obtain ⟨e0, e1, e2⟩ := rcells_get hm
    rw [← h7] at e0 e1 e2
    rw [List.getElem?_take_of_lt (by omega)] at e0 e1 e2
    simp only [Array.getElem?_toList] at e0 e1 e2
    simp [World.cell?, h3, e0, e1, e2]

/-- The messages of a link. -/
def ofL (k : Int × Int) (L : List RM) : List RM := L.filter fun m => decide (m.frm = k.1) && decide (m.to = k.2)

theorem ofL_snoc (k : Int × Int) (L : List RM) (m : RM) : ofL k (L ++ [m]) = if (decide (m.frm = k.1) && decide (m.to = k.2)) = true then ofL k L ++ [m] else ofL k L := by
  unfold ofL
  rw [List.filter_append]
  by_cases h : (decide (m.frm = k.1) && decide (m.to = k.2)) = true
  · rw [if_pos h]; simp [h]
  · rw [if_neg h]; simp [h]

theorem take_snoc {α : Type} {l : List α} {j : Nat} {x : α} (h : l[j]? = some x) : l.take (j + 1) = l.take j ++ [x] := by
  obtain ⟨h1, h2⟩ := List.getElem?_eq_some_iff.1 h
  rw [List.take_succ_eq_append_getElem h1, h2]

def CountInv (w : World) (f t : Int) (L : List RM) (k i : Value) (wr : World) : Prop :=
  ∃ j : Nat, j ≤ L.length ∧ i = .int .i64 j ∧ k = .int .i64 ((ofL (f, t) (L.take j)).length : Nat) ∧ Grow w wr

set_option maxHeartbeats 1000000 in
theorem count_any {B : Nat} {w : World} {q : Nat} {nodes bound time : Int} {v : Value} {L : List RM} (h : RefAt B w q nodes bound time v L) (hmax : L.length ≤ 1000000000000000) (f t : Int) :
    Calls Try.prog 29 #[.pointer (some ⟨q, 0, none⟩), .int .i64 f, .int .i64 t] w (fun e w' => e = .returned (.int .i64 ((ofL (f, t) L).length : Nat)) ∧ Grow w w') := by
  obtain ⟨k0, k1, k2, k3⟩ := h.cells
  obtain ⟨a, c, rfl, hrow⟩ := h.form
  have hq : q < w.heap.size := lt_of_getElem? h.self
  have Hcl := Lib.hid (Grow.cells (w := w))
  have Hrow := Lib.hid hrow
  clear h hrow
  go_enter Try.func29, Try.ntmps29
  go_wp2
  go_loopw [7, 8] (fun k i wr => CountInv w f t L k i wr) (fun _ i _ => L.length - (intOf i).toNat)
  case atStart => exact ⟨0, Nat.zero_le _, rfl, rfl, Grow.refl _⟩
  case round =>
    obtain ⟨j, hj, rfl, rfl, hg⟩ := hrel
    have d0 := Hcl.out wr q 3 hg hq
    rw [k3] at d0
    by_cases hlt : j < L.length
    · obtain ⟨m, hm⟩ : ∃ m, L[j]? = some m := ⟨L[j], by simp [hlt]⟩
      obtain ⟨g, rfl, hgs, hcs⟩ := Hrow.out (by omega)
      obtain ⟨c0, c1, c2⟩ := hcs j m hm
      rw [← Hcl.out wr _ _ hg hgs] at c0 c1 c2
      have hlt' : (j : Int) < (L.length : Int) := by omega
      have hj0 : (0 : Int) ≤ (j : Int) := by omega
      have hsn := ofL_snoc (f, t) (L.take j) m
      rw [← take_snoc hm] at hsn
      have hle : (ofL (f, t) (L.take j)).length ≤ j := by
        refine Nat.le_trans (List.length_filter_le _ _) ?_
        simp; omega
      have hnx : (ofL (f, t) (L.take (j + 1))).length = if (decide (m.frm = f) && decide (m.to = t)) = true then (ofL (f, t) (L.take j)).length + 1 else (ofL (f, t) (L.take j)).length := by
        rw [hsn]; split <;> simp
      have Hnx := Lib.hid hnx
      clear hsn hnx hcs
      generalize (ofL (f, t) (L.take j)).length = n at *
      have hwr : IntKind.i64.wrap ((n : Int) + 1) = (n : Int) + 1 := IntWalk.i64_in _ (by omega)
      by_cases h1 : m.frm = f
      · have hb : (m.frm == f) = true := by simp [h1]
        by_cases h2 : m.to = t
        · have hb2 : (m.to == t) = true := by simp [h2]
          have Hfin : Hid ((n : Int) + 1 = ((ofL (f, t) (L.take (j + 1))).length : Nat)) := Lib.hid (by rw [Hnx.out]; simp [h1, h2])
          clear h1 h2
          go_wp2
          go_roundw
          case rel => exact ⟨j + 1, hlt, rfl, by rw [Hfin.out], hg⟩
          case measure => simp [intOf]; omega
        · have hb2 : (m.to == t) = false := by simp [h2]
          have Hfin : Hid ((n : Int) = ((ofL (f, t) (L.take (j + 1))).length : Nat)) := Lib.hid (by rw [Hnx.out]; simp [h1, h2])
          clear h1 h2
          go_wp2
          go_roundw
          case rel => exact ⟨j + 1, hlt, rfl, by rw [Hfin.out], hg⟩
          case measure => simp [intOf]; omega
      · have hb : (m.frm == f) = false := by simp [h1]
        have Hfin : Hid ((n : Int) = ((ofL (f, t) (L.take (j + 1))).length : Nat)) := Lib.hid (by rw [Hnx.out]; simp [h1])
        clear h1
        go_wp2
        go_roundw
        case rel => exact ⟨j + 1, hlt, rfl, by rw [Hfin.out], hg⟩
        case measure => simp [intOf]; omega
    · obtain rfl : j = L.length := by omega
      rw [List.take_length]
      obtain ⟨n, hn⟩ : ∃ n, n = (ofL (f, t) L).length := ⟨_, rfl⟩
      rw [← hn]
      have Hn := Lib.hid hn
      clear hn
      go_wp2
      go_ret
      exact ⟨by rw [← Hn.out]; rfl, hg⟩
end Go.Proofs.Ytbanfilgokideaa
