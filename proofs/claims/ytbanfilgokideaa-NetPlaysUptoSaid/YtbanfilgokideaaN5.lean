/- slices.Delete at rows of byte slices, and a bag with one message less; the same bound. -/
import Derived.Test.YtbanfilgokideaaN4
namespace Go.Proofs.Ytbanfilgokideaa
open Go.RowKit Go.Gl

def Deleted (w : World) (row n cap i : Nat) (arr : Array Value) (e : Ending) (w' : World) : Prop :=
  e = .returned (.slice (some ⟨row, 0, none⟩) (n - 1) cap) ∧ w.grownBy w' (some row) ∧ ∃ arr' : Array Value, w'.heap[row]? = some (.cells arr' 22 (0, 0)) ∧ arr'.size = cap ∧ arr'.toList.take (n - 1) = (arr.toList.take n).eraseIdx i

theorem run_slice_from {P : Program} {w : World} {t E : TypeId} (ht : P.underlying t = some (.slice E)) (hs : (P.info? E).map (·.size) = some 1) (row n cap i : Nat) (hi : i ≤ n) :
    (Instr.slice t (.slice (some ⟨row, 0, none⟩) n cap) (some (.int .i64 i)) none none).run P w = .ok (.slice (some ⟨row, if cap = i then 0 else i, none⟩) (n - i) (cap - i)) w := by
  obtain ⟨i0, hi0, hi1⟩ := Option.map_eq_some_iff.1 hs
  by_cases hc : cap = i
  · simp [Instr.slice, run_underlying ht, Instr.sliceBounds, Instr.sliceBound, asIntOf, hi, hc, sizeOf, typeInfo, hi0, Result.andThen]
  · simp [Instr.slice, run_underlying ht, Instr.sliceBounds, Instr.sliceBound, asIntOf, hi, hc, sizeOf, typeInfo, hi0, hi1, Addr.add_lit, Result.andThen]

theorem run_delete_append (w : World) (row n cap i : Nat) (arr : Array Value) (hr : w.heap[row]? = some (.cells arr 22 (0, 0))) (harr : arr.size = cap) (hi : i < n) (hn : n ≤ cap) (hone : ∀ v ∈ arr.toList.take n, v.oneCell' = true) (o2 : Nat) (ho2 : o2 = if cap = i + 1 then 0 else i + 1) :
    (Builtin.append_ #[53, 53] 53 #[.slice (some ⟨row, 0, none⟩) i cap, .slice (some ⟨row, o2, none⟩) (n - (i + 1)) (cap - (i + 1))]).run Try.prog w =
      .ok (.slice (some ⟨row, 0, none⟩) (n - 1) cap) (w.setRow row (arr.toList.take i ++ (arr.toList.take n).drop (i + 1) ++ arr.toList.drop (n - 1)).toArray) := by
  obtain ⟨i0, hi0, hz0, hz1, hz2⟩ := info_parts Try.info22
  have hlen : ((arr.toList.take n).drop (i + 1)).length = n - (i + 1) := by simp; omega
  have := run_append_room (P := Try.prog) w 53 53 22 i0 Try.underlying53 hi0 row i cap arr hr ⟨row, o2, none⟩ (n - (i + 1)) (cap - (i + 1)) ((arr.toList.take n).drop (i + 1)) (by rw [hlen, hz1, Nat.mul_one])
    (fun j u hu => by
      have hj : j < n - (i + 1) := by rw [← hlen]; exact (List.getElem?_eq_some_iff.1 hu).1
      rw [if_neg (by omega)] at ho2
      rw [Addr.add_lit, ho2]
      rw [List.getElem?_drop, List.getElem?_take, if_pos (by omega)] at hu
      simp only [World.cell?, hr]
      simpa using hu)
    (fun u hu => hone u (List.mem_of_mem_drop hu)) (by omega) (by rw [hlen, hz1]; omega)
  rw [this, hz1]
  congr 1
  · congr 1; omega
  · congr 3
    · simp
    · congr 1; omega

theorem zero22v (w : World) : (zeroValue 22).run Try.prog w = .ok (.slice none 0 0) w := by kernel_rfl

theorem run_delete_clear (w : World) (row k cap i : Nat) (arr arr1 : Array Value) (hr : w.heap[row]? = some (.cells arr1 22 (0, 0))) (hs : arr1.size = cap) (hk : k < cap) (ht : arr1.toList.take k = (arr.toList.take (k + 1)).eraseIdx i) :
    ∃ W2, (Builtin.clear_ #[53] 0 #[.slice (some ⟨row, k, none⟩) 1 (cap - k)]).run Try.prog w = .ok (.tuple #[]) W2 ∧ w.grownBy W2 (some row) ∧
      ∃ arr' : Array Value, W2.heap[row]? = some (.cells arr' 22 (0, 0)) ∧ arr'.size = cap ∧ arr'.toList.take k = (arr.toList.take (k + 1)).eraseIdx i := by
  have hcell : w.cell? ⟨row, k, none⟩ = some arr1[k] := by simp [World.cell?, hr, hs, hk]
  have hrun := Lib.run_clear_slice (P := Try.prog) w 53 22 0 (.slice none 0 0) Try.underlying53 zero22v rfl rfl row k 1 (cap - k) (by decide)
    (fun j hj => by have : j = 0 := by omega
                    subst this; simp [hcell]) (fun j hj => by simp [World.frozen?, hr])
  refine ⟨_, hrun, ?_, arr1.setIfInBounds k (.slice none 0 0), ?_, by simpa using hs, ?_⟩
  · refine ⟨rfl, rfl, rfl, by simp [World.setCells], fun b _ hb => ?_⟩
    simp only [List.replicate, World.setCells]
    exact Below.heap_setCell _ _ _ _ (fun e => hb (by simp [e]))
  · simp only [List.replicate, World.setCells]
    rw [setCell_eq_setRow w row k arr1 22 (0, 0) _ hr]
    exact setRow_heap w row arr1 _ 22 _ hr
  · rw [← ht]
    simp [Array.toList_setIfInBounds, List.take_set_of_le]

set_option maxHeartbeats 1000000 in
theorem delete_at (w : World) (row k cap i : Nat) (arr : Array Value) (hr : w.heap[row]? = some (.cells arr 22 (0, 0))) (harr : arr.size = cap) (hi : i < k + 1) (hn : k + 1 ≤ cap) (hmax : k < 1000000000) (hone : ∀ v ∈ arr.toList.take (k + 1), v.oneCell' = true) :
    Calls Try.prog 32 #[.slice (some ⟨row, 0, none⟩) (k + 1) cap, .int .i64 i, .int .i64 (i + 1)] w (Deleted w row (k + 1) cap i arr) := by
  have h1 : ((i : Int) == (i : Int) + 1) = false := by simp; omega
  have h2 : (i : Int) + 1 ≤ (k : Int) + 1 := by omega
  have h3 : (k : Int) + 1 ≤ (cap : Int) := by omega
  have h4 : (i : Int) ≤ (cap : Int) := by omega
  have h5 : ¬ (cap = k) := by omega
  obtain ⟨o2, ho2⟩ : ∃ o2, o2 = if cap = i + 1 then 0 else i + 1 := ⟨_, rfl⟩
  have hsl : ∀ W, (Instr.slice 53 (.slice (some ⟨row, 0, none⟩) (k + 1) cap) (some (.int .i64 ((i : Int) + 1))) none none).run Try.prog W = .ok (.slice (some ⟨row, o2, none⟩) (k + 1 - (i + 1)) (cap - (i + 1))) W := fun W => by
    have := run_slice_from (P := Try.prog) (w := W) Try.underlying53 (by kernel_rfl) row (k + 1) cap (i + 1) (by omega)
    rw [ho2]; exact this
  have hra := run_delete_append w.drew row (k + 1) cap i arr hr harr hi hn hone o2 ho2
  rw [Nat.add_sub_cancel] at hra
  have hr1 := setRow_heap w.drew row arr (arr.toList.take i ++ (arr.toList.take (k + 1)).drop (i + 1) ++ arr.toList.drop k).toArray 22 (0, 0) hr
  have hgr : w.grownBy (w.drew.setRow row (arr.toList.take i ++ (arr.toList.take (k + 1)).drop (i + 1) ++ arr.toList.drop k).toArray) (some row) :=
    ⟨rfl, rfl, rfl, by simp, fun b _ hb => setRow_other w.drew row b _ (fun e => hb (by simp [e]))⟩
  have ht1 : (arr.toList.take i ++ (arr.toList.take (k + 1)).drop (i + 1) ++ arr.toList.drop k).toArray.toList.take k = (arr.toList.take (k + 1)).eraseIdx i := by
    rw [List.eraseIdx_eq_take_drop_succ, List.take_take]
    have e1 : min i (k + 1) = i := by omega
    rw [e1]
    have e2 : (arr.toList.take i ++ (arr.toList.take (k + 1)).drop (i + 1)).length = k := by simp; omega
    simp only
    rw [List.take_append_of_le_length (by omega), List.take_of_length_le (by omega)]
  have hs1 : (arr.toList.take i ++ (arr.toList.take (k + 1)).drop (i + 1) ++ arr.toList.drop k).toArray.size = cap := by simp; omega
  generalize (arr.toList.take i ++ (arr.toList.take (k + 1)).drop (i + 1) ++ arr.toList.drop k).toArray = arr1 at *
  generalize hW1 : w.drew.setRow row arr1 = W1 at *
  obtain ⟨W2, hrc, hgr2, hfin⟩ := run_delete_clear W1 row k cap i arr arr1 hr1 hs1 (by omega) ht1
  have Hsl := Lib.hid hsl
  have Hra := Lib.hid hra
  have Hfin := Lib.hid hfin
  have Hgr := Lib.hid (hgr.trans hgr2)
  clear hsl hra hone ho2 hfin hgr hgr2 ht1 hs1 hr1 hW1
  go_enter Try.func32, Try.ntmps32
  go_wp2_with fail
  refine wp_region_pi (fun _ => True) [(0, false), (1, false), (2, false), (3, false), (4, false), (5, false), (6, true), (7, false)] (by kernel_rfl) (by kernel_rfl) (fun c a d v w h => by cases d <;> exact h) trivial ?_
  simp only [arrange, nth]
  iterate 5 (first | (refine wpPi_quiet (v := ?_) (by rfl) (fun W hW => ?_) ?_; rotate_left; (obtain _ := hW; go_simp; with_reducible rfl); simp only [Act.put, List.setIfInBounds_toArray, List.set_cons_zero, List.set_cons_succ]) | (refine wpPi_off (by rfl) ?_; simp only [Act.put, List.setIfInBounds_toArray, List.set_cons_zero, List.set_cons_succ]))
  refine wpPi_quiet (v := .slice (some ⟨row, o2, none⟩) (k + 1 - (i + 1)) (cap - (i + 1))) (by rfl) (fun W _ => ?_) ?_
  · simp [execOp, Instr.sliceAt, run_underlying Try.underlying53, Act.eval, Hsl.out]
  try simp only [Act.put, List.setIfInBounds_toArray, List.set_cons_zero, List.set_cons_succ]
  refine wpPi_run (by rfl) (execOp_append rfl rfl rfl Hra.out) trivial ?_
  try simp only [Act.put, List.setIfInBounds_toArray, List.set_cons_zero, List.set_cons_succ]
  repeat (first | (refine wpPi_quiet (v := ?_) (by rfl) (fun W hW => ?_) ?_; rotate_left; (obtain _ := hW; go_simp; with_reducible rfl); simp only [Act.put, List.setIfInBounds_toArray, List.set_cons_zero, List.set_cons_succ]) | (refine wpPi_off (by rfl) ?_; simp only [Act.put, List.setIfInBounds_toArray, List.set_cons_zero, List.set_cons_succ]))
  refine wpPi_nil ?_
  go_wp2_with fail
  go_ret
  exact ⟨rfl, Hgr.out, Hfin.out⟩

/-- What a link's bag is when a message is taken out of it. -/
def takeV (k : Int × Int) (j : Nat) (V : View) : View := (V.map fun x => if x.1 = k then (x.1, x.2.eraseIdx j) else x).filter fun x => !x.2.isEmpty

/-- The bag of a link, one message less, is laid back. -/
theorem net_shrink {B : Nat} {w W1 : World} {p r : Nat} {nodes bound now : Int} {gs : List Bag} (h : NetAt B w p r nodes bound now gs) {g : Bag} (hg : g ∈ gs) (j : Nat) (hj : j < g.msgs.length)
    (hgr : w.grownBy W1 (some g.row)) {arr' : Array Value} (harr : W1.heap[g.row]? = some (.cells arr' 22 (0, 0))) (hsz : arr'.size = g.cap) (htk : arr'.toList.take (g.msgs.length - 1) = (g.msgs.map Msg.val).eraseIdx j) :
    ∃ W2, (Instr.mapUpdate 47 (.map (some r)) (pairV g.key) (.slice (some ⟨g.row, 0, none⟩) (g.msgs.length - 1) g.cap)).run Try.prog W1 = .ok () W2 ∧ Keep softN B w W2 ∧
      NetAt B W2 p r nodes bound now (gs.map fun x => if g.key = x.key then { x with msgs := x.msgs.eraseIdx j } else x) := by
  obtain ⟨c, hmap, hborn⟩ := h.map
  obtain ⟨arr, harr0, hBrow, hlen, hcap, _⟩ := (h.bags g hg).row
  have hrow_r : ∀ x ∈ gs, x.row ≠ r := fun x hx e => by
    obtain ⟨arr', h1, _⟩ := (h.bags x hx).row
    rw [e, hmap] at h1; cases h1
  have hK1 : Keep softN B w W1 := Keep.grown hgr (fun k hk => by cases hk; exact hBrow) h.room (fun k o hk ho => by cases hk; rw [harr0] at ho; cases ho; exact softN_row _ _)
  have hm1 : W1.heap[r]? = some (.map ((gs.map Bag.ent).map (Ent.raw pairV)).toArray c) := by
    rw [hgr.block r (lt_of_getElem? hmap) (by intro e; exact hrow_r g hg (Option.some.inj e).symm)]; exact hmap
  have hrun := run_mapUpdate_old (P := Try.prog) keyOk52 Try.underlying47 hm1 (by rw [ent_keys]; exact h.keys) g.key (.slice (some ⟨g.row, 0, none⟩) (g.msgs.length - 1) g.cap) ⟨g.ent, List.mem_map_of_mem hg, rfl⟩
  have hself1 := hK1.hard _ _ h.self (not_softN (by decide) _ _)
  have hFg : ∀ x ∈ gs, g.key = x.key → x = g := fun x hx hxk => key_inj h.keys hx hg hxk.symm
  let F : Bag → Bag := fun x => if g.key = x.key then { x with msgs := x.msgs.eraseIdx j } else x
  have hl : putV g.key (.slice (some ⟨g.row, 0, none⟩) (g.msgs.length - 1) g.cap) (gs.map Bag.ent) = (gs.map F).map Bag.ent := by
    refine putV_bags g.key _ gs F fun x hx => ?_
    by_cases hxk : g.key = x.key
    · have := hFg x hx hxk
      subst this
      simp [F, Bag.ent, Bag.val, List.length_eraseIdx, hj]
    · simp [F, hxk]
  refine ⟨_, hrun, hK1.trans (Keep.setO hm1 (softN_map _ _) h.base), ?_⟩
  refine netAt_setO hself1 hm1 h.base (gs.map F) c ?_ ?_ ?_ ?_ ?_ _ hl
  · intro x hx
    obtain ⟨y, hy, rfl⟩ := List.mem_map.1 hx
    have : (F y).born = y.born := by simp only [F]; split <;> rfl
    rw [this]; exact hborn y hy
  · rw [map_key_eq gs F fun y _ => by simp only [F]; split <;> rfl]; exact h.keys
  · rw [map_born_eq gs F fun y _ => by simp only [F]; split <;> rfl]; exact h.borns
  · refine rows_nodup h.rows fun a ha b hb hab => ?_
    have e : ∀ y, (F y).row = y.row := fun y => by simp only [F]; split <;> rfl
    rwa [e, e] at hab
  · intro x hx
    obtain ⟨y, hy, rfl⟩ := List.mem_map.1 hx
    by_cases hyk : g.key = y.key
    · have := hFg y hy hyk
      subst this
      have e2 : (F y).msgs = y.msgs.eraseIdx j := by simp [F]
      have e1 : (F y).val = .slice (some ⟨y.row, 0, none⟩) (y.msgs.length - 1) y.cap := by simp [F, Bag.val, List.length_eraseIdx, hj]
      have e3 : (y.msgs.eraseIdx j).length = y.msgs.length - 1 := by simp [List.length_eraseIdx, hj]
      refine ⟨?_, ?_⟩
      · rw [e1, e2, e3]
        refine ⟨by simp [e3], .inr ⟨y.row, y.cap, arr', rfl, hBrow, harr, by omega, ?_, by simpa using hsz, ?_⟩⟩
        · rcases (h.bags y hy).own.2 with ⟨h1, _⟩ | ⟨b, cap, cur, h1, _, _, _, h5, _⟩
          · simp [Bag.val] at h1
          · simp only [Bag.val, Value.slice.injEq] at h1
            rw [h1.2.2]; exact h5
        · rw [Nat.mul_one, htk, map_eraseIdx']
      · intro m hm
        rw [e2] at hm
        exact oBytes_hard ((h.bags y hy).msg m (List.mem_of_mem_eraseIdx hm)) hK1
    · have e1 : F y = y := by simp [F, hyk]
      rw [e1]
      obtain ⟨arr2, h1, _⟩ := (h.bags y hy).row
      refine (h.bags y hy).keep hK1 (hgr.block y.row (lt_of_getElem? h1) ?_)
      intro e
      exact hyk (by rw [row_inj h.rows hy hg (Option.some.inj e)])

/-- A link is struck out. -/
theorem net_delete {B : Nat} {w : World} {p r : Nat} {nodes bound now : Int} {gs : List Bag} (h : NetAt B w p r nodes bound now gs) (k : Int × Int) :
    ∃ W2, (Builtin.delete_ #[47, 52] 0 #[.map (some r), pairV k]).run Try.prog w = .ok (.tuple #[]) W2 ∧ Keep softN B w W2 ∧
      NetAt B W2 p r nodes bound now (gs.filter fun x => decide (k ≠ x.key)) := by
  obtain ⟨c, hmap, hborn⟩ := h.map
  have hrun := run_delete (P := Try.prog) (ty := 0) (kt' := 52) keyOk52 Try.underlying47 hmap (by rw [ent_keys]; exact h.keys) k
  refine ⟨_, hrun, Keep.setO hmap (softN_map _ _) h.base, ?_⟩
  refine netAt_setO h.self hmap h.base _ c ?_ ?_ ?_ ?_ ?_ _ ?_
  · exact fun x hx => hborn x (List.mem_filter.1 hx).1
  · exact h.keys.sublist (List.filter_sublist.map _)
  · exact h.borns.sublist (List.filter_sublist.map _)
  · exact h.rows.sublist (List.filter_sublist.map _)
  · exact fun x hx => h.bags x (List.mem_filter.1 hx).1
  · rw [List.filter_map]; rfl
end Go.Proofs.Ytbanfilgokideaa
