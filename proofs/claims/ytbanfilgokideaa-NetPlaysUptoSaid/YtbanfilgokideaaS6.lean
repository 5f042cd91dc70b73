/- net.Links, with the library's sort. -/
import Derived.Test.YtbanfilgokideaaS3
import Derived.Shelf.SlSortCmp.NoneTotal
namespace Go.Proofs.Ytbanfilgokideaa
open Go.RowKit Go.Gl Go.Shelf

theorem ltLk (x y : Lk) : ltOf cfLk x y = decide (x.1 < y.1 ∨ (x.1 = y.1 ∧ x.2.1 < y.2.1)) := by
  unfold ltOf cfLk cmpI
  congr 1
  apply propext
  constructor
  · intro h
    (repeat' split at h) <;> first | omega | (simp at h)
  · intro h
    (repeat' split) <;> omega

theorem cfLk_le {x y : Lk} (h : ltOf cfLk y x = false) : cfLk x y ≤ 0 := by
  rw [ltLk] at h
  simp only [decide_eq_false_iff_not] at h
  unfold cfLk cmpI
  (repeat' split) <;> omega

theorem swoLk : Sort.SWO (ltOf cfLk) where
  irrefl x := by rw [ltLk]; simp
  trans x y z h1 h2 := by rw [ltLk] at *; simp only [decide_eq_true_eq] at *; omega
  ntrans x y z h1 h2 := by rw [ltLk] at *; simp only [decide_eq_false_iff_not] at *; omega

theorem cmpLays36 (blk off size : Nat) (w : World) : CmpLays Try.prog 36 #[] encLk 3 cfLk blk off size w :=
  fun _ _ _ _ x y => closure36 x y _

theorem sortsNone : SortsNone := fun w p cap fv => by
  have h := AnyF.slices_SortFunc_none Try.sortLk p cap fv w
  exact h

theorem lcells_get : ∀ {ls : List Lk} {i : Nat} {x : Lk}, ls[i]? = some x → ∀ c, c < 3 → (lcells ls)[i * 3 + c]? = (encLk x)[c]?
  | [], i, x, h, _, _ => by simp at h
  | a :: ls, 0, x, h, c, hc => by
    simp at h; subst h
    unfold lcells
    rw [List.flatMap_cons, List.getElem?_append_left (by simp [encLk]; omega)]
    simp
  | a :: ls, i + 1, x, h, c, hc => by
    have ih := lcells_get (ls := ls) (i := i) (x := x) (by simpa using h) c hc
    unfold lcells at ih ⊢
    rw [List.flatMap_cons, List.getElem?_append_right (by simp [encLk]; omega), ← ih]
    congr 1
    simp [encLk]; omega

theorem holds_lk {w : World} {g cap : Nat} {ls : List Lk} (h : w.ownsRow 0 69 3 (.slice (some ⟨g, 0, none⟩) ls.length cap) ls.length (lcells ls)) : Sort.HoldsK encLk 3 w g 0 ls.toArray := by
  intro j hj
  rw [Sort.size_flatK] at hj
  simp only [List.size_toArray] at hj
  have hdiv : j / 3 < ls.length := by omega
  rw [Nat.zero_add]
  refine ⟨?_, h.frozenAt j⟩
  rw [h.cellAt j hj, Sort.get_flatK _ _ _ _ (by simpa using hj)]
  have h1 : ls[j / 3]? = some ls[j / 3] := List.getElem?_eq_getElem hdiv
  have h2 := lcells_get h1 (j % 3) (Nat.mod_lt _ (by decide))
  rw [show j / 3 * 3 + j % 3 = j by omega] at h2
  rw [h2]
  have h3 : ls.toArray[j / 3]! = ls[j / 3] := by simp [hdiv]
  rw [h3]
  have h4 : j % 3 < (encLk ls[j / 3]).length := by simp [encLk]; omega
  rw [List.getElem?_eq_getElem h4, getElem!_pos (encLk ls[j / 3]) (j % 3) h4]
  rfl

theorem grown_sort (w : World) (g n : Nat) (d : Array Lk) (os : Array Obj) : w.grownBy (sortWorldK encLk 3 w g 0 n d os) (some g) := by
  refine ⟨rfl, rfl, rfl, size_sortWorldK_c .., fun k hk hne => ?_⟩
  unfold sortWorldK
  rw [Sort.heap_grow_old _ _ (by rw [Sort.size_putRowK]; exact hk)]
  unfold Sort.putRowK Sort.putRow Sort.mapBlock
  simp only [Array.getElem?_modify]
  rw [if_neg (fun e => hne (by rw [e]))]
  rfl

theorem sortsLk : SortsLk := fun w g cap ls hown hlen => by
  have eg : ∀ args w, (callFunc 36 args).run Try.prog w = .ok (.enter 36 args) w := enters_of Try.func36 (by kernel_rfl) rfl
  have hblk : g < w.heap.size := by
    rcases hown.2 with ⟨e, _⟩ | ⟨g', cap', cur, e, _, h3, _⟩
    · cases e
    · cases e; exact lt_of_getElem? h3
  have hcon := AnyQ.slices_SortFunc Try.sortLk 3 Try.isAgg69 Try.sizeOf69 encLk (fun _ => rfl) (fun x v hv => by simp [encLk] at hv; rcases hv with rfl | rfl | rfl <;> rfl) cfLk swoLk 36 #[] g 0 cap ls.toArray w eg (cmpLays36 g 0 ls.toArray.size w) (holds_lk hown) hblk (by simp; omega)
  have hcon' : Calls Try.prog 35 #[.slice (some ⟨g, 0, none⟩) ls.length cap, .func (.func 36) #[] #[]] w _ := hcon
  refine hcon'.mono fun e w' ⟨he, d', n, os, hp, hs, hw⟩ => ⟨he, d'.toList, ?_, ?_, ?_, ?_⟩
  · have := hp.2.2
    simp only [List.size_toArray] at this
    have e1 : d'.extract 0 ls.length = d' := by
      have := hp.1; simp at this
      rw [← this]; simp
    have e2 : ls.toArray.extract 0 ls.length = ls.toArray := by simp
    rw [e1, e2] at this
    exact this
  · rw [List.pairwise_iff_getElem]
    intro i j hi hj hij
    have hsz := hp.1
    simp only [List.size_toArray] at hsz
    simp only [Array.length_toList] at hi hj
    have := hs i j (Nat.zero_le _) hij (by simp; omega)
    rw [getElem!_pos d' i hi, getElem!_pos d' j hj] at this
    exact cfLk_le this
  · have hsz := hp.1
    simp only [List.size_toArray] at hsz
    refine ⟨_, cap, by rw [Array.length_toList]; simp [hsz], .inr ⟨g, rfl, ?_, fun i x hx => ?_⟩⟩
    · rw [hw]; exact Nat.lt_of_lt_of_le hblk (size_sortWorldK_c ..)
    · have hH := holdsK_sortWorldK_c encLk 3 w g 0 ls.toArray d' n os (holds_lk hown) hblk (by simpa using hsz)
      rw [← hw] at hH
      simp only [Array.getElem?_toList] at hx
      have hi : i < d'.size := lt_of_getElem? hx
      have hxe : d'[i]! = x := by
        rw [getElem!_pos d' i hi]
        rw [Array.getElem?_eq_getElem hi] at hx
        exact Option.some.inj hx
      have k0 := (hH.cell hi (c := 0) (by decide)).1
      have k1 := (hH.cell hi (c := 1) (by decide)).1
      have k2 := (hH.cell hi (c := 2) (by decide)).1
      rw [hxe] at k0 k1 k2
      rw [show 0 + i * 3 + 0 = i * 3 by omega] at k0
      rw [show 0 + i * 3 + 1 = i * 3 + 1 by omega] at k1
      rw [show 0 + i * 3 + 2 = i * 3 + 2 by omega] at k2
      exact ⟨k0, k1, k2⟩
  · rw [hw]; exact grown_sort w g n d' os

theorem links_any {B : Nat} {w : World} {p r : Nat} {nodes bound now : Int} {gs : List Bag} (h : NetAt B w p r nodes bound now gs) (hmax : gs.length < 1000000000) :
    Calls Try.prog 28 #[.pointer (some ⟨p, 0, none⟩)] w (LinksPost w ((gs.map Bag.ent).map lkEnt)) := links_run sortsLk sortsNone h hmax
end Go.Proofs.Ytbanfilgokideaa
