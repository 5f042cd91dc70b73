/- Merged out of Gn: helpers. -/
import Derived.Test.YtejpcoghkgjanaaGreatDoorVA
import Derived.Shelf.SlSortCmp.NoneTotal
/- Generic lemmas, over any program: rows of elements of k cells as lists of data. -/
namespace Go.Gl
open Go Go.RowKit Go.Sort Go.Shelf Go.Proofs
section rows
variable {α : Type} {enc : α → List Value} {k : Nat}

theorem flat_len (hk : ∀ x, (enc x).length = k) (l : List α) : (l.flatMap enc).length = l.length * k := by
  induction l with
  | nil => simp
  | cons x l ih => rw [List.flatMap_cons, List.length_append, hk, ih, List.length_cons, Nat.add_mul]; omega

theorem flat_get (hk : ∀ x, (enc x).length = k) : ∀ {l : List α} {i : Nat} {x : α}, l[i]? = some x → ∀ c, c < k → (l.flatMap enc)[i * k + c]? = (enc x)[c]?
  | [], i, x, h, _, _ => by simp at h
  | a :: l, 0, x, h, c, hc => by
    simp at h; subst h
    rw [List.flatMap_cons, Nat.zero_mul, Nat.zero_add, List.getElem?_append_left (by rw [hk]; exact hc)]
  | a :: l, i + 1, x, h, c, hc => by
    have ih := flat_get hk (l := l) (i := i) (x := x) (by simpa using h) c hc
    rw [List.flatMap_cons, List.getElem?_append_right (by rw [hk, Nat.add_mul]; omega), ← ih, hk]
    congr 1
    rw [Nat.add_mul]; omega

theorem flat_take (hk : ∀ x, (enc x).length = k) (l : List α) (n : Nat) (hn : n ≤ l.length) : (l.flatMap enc).take (n * k) = (l.take n).flatMap enc := by
  have h1 : l.flatMap enc = (l.take n).flatMap enc ++ (l.drop n).flatMap enc := by rw [← List.flatMap_append, List.take_append_drop]
  have h2 : ((l.take n).flatMap enc).length = n * k := by rw [flat_len hk]; simp [Nat.min_eq_left hn]
  rw [h1, List.take_append_of_le_length (by omega), ← h2, List.take_length]

/-- A row of elements that can be read: each cell is known. -/
def Rd (w : World) (b o : Nat) (enc : α → List Value) (k : Nat) (l : List α) : Prop := ∀ (i : Nat) (x : α), l[i]? = some x → ∀ (c : Nat) (u : Value), (enc x)[c]? = some u → w.cell? ⟨b, o + i * k + c, none⟩ = some u

theorem rd_of_owns {w : World} {B e g cap : Nat} (hk : ∀ x, (enc x).length = k) {l : List α} (h : w.ownsRow B e k (.slice (some ⟨g, 0, none⟩) l.length cap) l.length (l.flatMap enc)) : Rd w g 0 enc k l := by
  intro i x hx c u hu
  have hc : c < k := by have := (List.getElem?_eq_some_iff.1 hu).1; rwa [hk] at this
  have hi : i < l.length := (List.getElem?_eq_some_iff.1 hx).1
  have hj : i * k + c < l.length * k := by
    have := Nat.mul_le_mul_right k (show i + 1 ≤ l.length from hi)
    rw [Nat.add_mul, Nat.one_mul] at this; omega
  rw [Nat.zero_add, h.cellAt _ hj, flat_get hk hx c hc, hu]

theorem Rd.grow {w w' : World} {b o : Nat} {l : List α} (h : Rd w b o enc k l) (hb : b < w.heap.size) (hg : Grow w w') : Rd w' b o enc k l := fun i x hx c u hu => by
  rw [Grow.cells _ _ _ hg hb]; exact h i x hx c u hu

theorem owns_grow {w w' : World} {B e : Nat} {v : Value} {n : Nat} {xs : List Value} (h : w.ownsRow B e k v n xs) (hg : Grow w w') : w'.ownsRow B e k v n xs := by
  refine ⟨h.1, ?_⟩
  rcases h.2 with h1 | ⟨g, cap, cur, h1, h2, h3, h4⟩
  · exact .inl h1
  · exact .inr ⟨g, cap, cur, h1, h2, hg.heap h3, h4⟩

theorem owns_mono {w : World} {B B' e : Nat} {v : Value} {n : Nat} {xs : List Value} (h : w.ownsRow B e k v n xs) (hB : B' ≤ B) : w.ownsRow B' e k v n xs := by
  refine ⟨h.1, ?_⟩
  rcases h.2 with h1 | ⟨g, cap, cur, h1, h2, h3⟩
  · exact .inl h1
  · exact .inr ⟨g, cap, cur, h1, Nat.le_trans hB h2, h3⟩

variable [Inhabited α]

theorem holds_of_owns {w : World} {B e g cap : Nat} (hk : ∀ x, (enc x).length = k) (hk0 : 0 < k) {l : List α} (h : w.ownsRow B e k (.slice (some ⟨g, 0, none⟩) l.length cap) l.length (l.flatMap enc)) : HoldsK enc k w g 0 l.toArray := by
  intro j hj
  rw [size_flatK] at hj
  simp only [List.size_toArray] at hj
  have hdiv : j / k < l.length := Nat.div_lt_of_lt_mul (by rw [Nat.mul_comm]; exact hj)
  rw [Nat.zero_add]
  refine ⟨?_, h.frozenAt j⟩
  rw [h.cellAt j hj, get_flatK _ _ _ _ (by simpa using hj)]
  have h1 : l[j / k]? = some l[j / k] := List.getElem?_eq_getElem hdiv
  have h2 := flat_get hk h1 (j % k) (Nat.mod_lt _ hk0)
  rw [show j / k * k + j % k = j by rw [Nat.mul_comm]; exact Nat.div_add_mod j k] at h2
  rw [h2]
  have h3 : l.toArray[j / k]! = l[j / k] := by simp [hdiv]
  rw [h3]
  have h4 : j % k < (enc l[j / k]).length := by rw [hk]; exact Nat.mod_lt _ hk0
  rw [List.getElem?_eq_getElem h4, getElem!_pos (enc l[j / k]) (j % k) h4]
  rfl

theorem grown_sortK (w : World) (g n : Nat) (d : Array α) (os : Array Obj) : w.grownBy (sortWorldK enc k w g 0 n d os) (some g) := by
  refine ⟨rfl, rfl, rfl, size_sortWorldK_c .., fun b hb hne => ?_⟩
  unfold sortWorldK
  rw [heap_grow_old _ _ (by rw [size_putRowK]; exact hb)]
  unfold putRowK putRow mapBlock
  simp only [Array.getElem?_modify]
  rw [if_neg (fun e => hne (by rw [e]))]
  rfl

theorem flat_eq_flatK (hk : ∀ x, (enc x).length = k) (hk0 : 0 < k) (d : Array α) : (flatK enc k d).toList = d.toList.flatMap enc := by
  apply List.ext_getElem?
  intro j
  by_cases hj : j < d.size * k
  · have hdiv : j / k < d.size := Nat.div_lt_of_lt_mul (by rw [Nat.mul_comm]; exact hj)
    have h1 : d.toList[j / k]? = some d[j / k] := by simp [hdiv]
    have h2 := flat_get hk h1 (j % k) (Nat.mod_lt _ hk0)
    rw [show j / k * k + j % k = j by rw [Nat.mul_comm]; exact Nat.div_add_mod j k] at h2
    rw [h2]
    have h5 : j < (flatK enc k d).size := by rw [size_flatK]; exact hj
    have h3 := get_flatK enc k d j hj
    rw [getElem!_pos _ j h5] at h3
    rw [Array.getElem?_toList, Array.getElem?_eq_getElem h5, h3, getElem!_pos d (j / k) hdiv]
    have h4 : j % k < (enc d[j / k]).length := by rw [hk]; exact Nat.mod_lt _ hk0
    rw [List.getElem?_eq_getElem h4, getElem!_pos (enc d[j / k]) (j % k) h4]
  · rw [List.getElem?_eq_none (by rw [Array.length_toList, size_flatK]; omega), List.getElem?_eq_none (by rw [flat_len hk, Array.length_toList]; omega)]

theorem owns_sortK {w : World} {B e g cap : Nat} (hk : ∀ x, (enc x).length = k) (hk0 : 0 < k) {l : List α} (h : w.ownsRow B e k (.slice (some ⟨g, 0, none⟩) l.length cap) l.length (l.flatMap enc)) (n : Nat) (d : Array α) (os : Array Obj) (hd : d.size = l.length) :
    (sortWorldK enc k w g 0 n d os).ownsRow B e k (.slice (some ⟨g, 0, none⟩) l.length cap) l.length (d.toList.flatMap enc) := by
  rcases h.2 with ⟨e1, _⟩ | ⟨g', cap', cur, e1, hB, hg, hn, hm, hs, ht⟩
  · cases e1
  · cases e1
    refine ⟨by rw [flat_len hk, Array.length_toList, hd], .inr ⟨g, cap, putCells id 0 (flatK enc k d) cur, rfl, hB, ?_, hn, hm, by simp [putCells, hs], ?_⟩⟩
    · unfold sortWorldK
      have hlt : g < w.heap.size := lt_of_getElem? hg
      rw [heap_grow_old _ _ (by rw [size_putRowK]; exact hlt)]
      unfold putRowK putRow mapBlock
      simp only [Array.getElem?_modify, if_true]
      rw [show (Sort.ahead w n).heap[g]? = w.heap[g]? from rfl, hg]
      rfl
    · rw [← flat_eq_flatK hk hk0]
      apply List.ext_getElem?
      intro j
      rw [List.getElem?_take]
      by_cases hj : j < l.length * k
      · have hjs : j < cur.size := by
          rw [hs]
          have := Nat.mul_le_mul_right k hn
          omega
        have h5 : j < (flatK enc k d).size := by rw [size_flatK, hd]; exact hj
        rw [if_pos hj]
        simp only [putCells, Array.toList_mapIdx, List.getElem?_mapIdx, Array.getElem?_toList, Array.getElem?_eq_getElem hjs, Option.map_some, Nat.zero_le, true_and, Nat.zero_add, h5, if_true, Nat.sub_zero, id, Array.getElem?_eq_getElem h5]
        rw [getElem!_pos _ j h5]
      · rw [if_neg hj, List.getElem?_eq_none (by rw [Array.length_toList, size_flatK, hd]; omega)]
end rows
end Go.Gl
