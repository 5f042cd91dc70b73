/- The three steps of laying a message into a bag: the net behind them is the net with one message more; the bag has fewer than 10^9 messages. -/
import Derived.Test.YtbanfilgokideaaN2
namespace Go.Proofs.Ytbanfilgokideaa
open Go.RowKit Go.Gl

/-- What of a net is seen: its links, each with its messages. -/
abbrev View := List ((Int × Int) × List Msg)
def vw (gs : List Bag) : View := gs.map fun g => (g.key, g.msgs)

/-- A message more at a link. -/
def pushV (k : Int × Int) (m : Msg) (V : View) : View :=
  if k ∈ V.map (·.1) then V.map fun x => if x.1 = k then (x.1, x.2 ++ [m]) else x else V ++ [(k, [m])]

theorem vw_keys (gs : List Bag) : (vw gs).map (·.1) = gs.map Bag.key := by simp [vw, Function.comp_def]

theorem zero22 : (Value.slice none 0 0).cells.size = 1 := rfl

theorem softN_map (es : Array MapEntry) (c : Nat) : softN (.map es c) := .inl ⟨_, _, rfl⟩
theorem softN_row (a : Array Value) (f : Nat × Nat) : softN (.cells a 22 f) := .inr ⟨_, _, rfl⟩
theorem not_softN {t : TypeId} (ht : t ≠ 22) (a : Array Value) (f : Nat × Nat) : ¬ softN (.cells a t f) := by simp [softN]; exact ht

/-- The net behind a turn of its map. -/
theorem netAt_setO {B : Nat} {w : World} {p r : Nat} {nodes bound now : Int} {es : Array MapEntry} {c0 : Nat} (hself : w.heap[p]? = some (.cells #[.int .i64 nodes, .int .i64 bound, .int .i64 now, .map (some r)] 49 (0, 0)))
    (hr : w.heap[r]? = some (.map es c0)) (hB : B ≤ r) (gs : List Bag) (c : Nat) (hborn : ∀ g ∈ gs, g.born < c) (hk : (gs.map Bag.key).Nodup) (hb : (gs.map Bag.born).Nodup) (hrw : (gs.map Bag.row).Nodup)
    (bags : ∀ g ∈ gs, BagAt B w g) (l : List (Ent (Int × Int))) (hl : l = gs.map Bag.ent) : NetAt B (setO w r (.map (l.map (Ent.raw pairV)).toArray c)) p r nodes bound now gs := by
  have hK : Keep softN B w (setO w r (.map (l.map (Ent.raw pairV)).toArray c)) := Keep.setO hr (softN_map _ _) hB
  have hlt := lt_of_getElem? hr
  refine ⟨hK.hard _ _ hself (not_softN (by decide) _ _), ⟨c, ?_, hborn⟩, hk, hb, hrw, fun g hg => ?_, hB, ?_⟩
  · show (setO w r _).heap[r]? = _
    rw [setO_same hlt, hl]
  · obtain ⟨arr, h1, _⟩ := (bags g hg).row
    exact (bags g hg).keep hK (setO_other (fun e => by rw [e, hr] at h1; cases h1))
  · have := hK.size; omega

theorem putV_bags (k : Int × Int) (v : Value) (gs : List Bag) (f : Bag → Bag) (hf : ∀ g ∈ gs, (f g).ent = if k = g.key then { g.ent with val := v } else g.ent) :
    putV k v (gs.map Bag.ent) = (gs.map f).map Bag.ent := by
  unfold putV
  rw [List.map_map, List.map_map]
  apply List.map_congr_left
  intro g hg
  simp only [Function.comp_apply]
  rw [hf g hg]
  by_cases hkg : k = g.key <;> simp [Bag.ent, hkg]

theorem map_key_eq (gs : List Bag) (f : Bag → Bag) (hf : ∀ g ∈ gs, (f g).key = g.key) : (gs.map f).map Bag.key = gs.map Bag.key := by
  rw [List.map_map]; exact List.map_congr_left fun g hg => hf g hg
theorem map_born_eq (gs : List Bag) (f : Bag → Bag) (hf : ∀ g ∈ gs, (f g).born = g.born) : (gs.map f).map Bag.born = gs.map Bag.born := by
  rw [List.map_map]; exact List.map_congr_left fun g hg => hf g hg

theorem key_inj {gs : List Bag} (h : (gs.map Bag.key).Nodup) {a b : Bag} (ha : a ∈ gs) (hb : b ∈ gs) (hk : a.key = b.key) : a = b := by
  obtain ⟨i, hi⟩ := List.mem_iff_getElem?.1 ha
  obtain ⟨j, hj⟩ := List.mem_iff_getElem?.1 hb
  have : i = j := nodup_idx h (x := a.key) (by simp [hi]) (by simp [hj, hk])
  subst this
  exact Option.some.inj (hi.symm.trans hj)
theorem row_inj {gs : List Bag} (h : (gs.map Bag.row).Nodup) {a b : Bag} (ha : a ∈ gs) (hb : b ∈ gs) (hk : a.row = b.row) : a = b := by
  obtain ⟨i, hi⟩ := List.mem_iff_getElem?.1 ha
  obtain ⟨j, hj⟩ := List.mem_iff_getElem?.1 hb
  have : i = j := nodup_idx h (x := a.row) (by simp [hi]) (by simp [hj, hk])
  subst this
  exact Option.some.inj (hi.symm.trans hj)

theorem msgsAt_of {gs : List Bag} (h : (gs.map Bag.key).Nodup) {g : Bag} (hg : g ∈ gs) {k : Int × Int} (hk : g.key = k) : gs.find? (fun g => decide (k = g.key)) = some g := by
  cases hf : gs.find? (fun g => decide (k = g.key)) with
  | none => exact absurd hk.symm (by simpa using List.find?_eq_none.1 hf g hg)
  | some g' =>
    have h1 := List.mem_of_find?_eq_some hf
    have h2 := List.find?_some hf
    simp only [decide_eq_true_eq] at h2
    rw [key_inj h hg h1 (hk.trans h2)]

theorem ent_keys (gs : List Bag) : (gs.map Bag.ent).map Ent.key = gs.map Bag.key := by simp [Bag.ent, Function.comp_def]
theorem ent_borns (gs : List Bag) : (gs.map Bag.ent).map Ent.born = gs.map Bag.born := by simp [Bag.ent, Function.comp_def]

/-- Rows stay apart where one of them moves to a new place. -/
theorem rows_nodup {gs : List Bag} {f : Bag → Bag} (h : (gs.map Bag.row).Nodup) (hf : ∀ a ∈ gs, ∀ b ∈ gs, (f a).row = (f b).row → a.row = b.row) : ((gs.map f).map Bag.row).Nodup := by
  rw [List.map_map]
  induction gs with
  | nil => simp
  | cons g gs ih =>
    simp only [List.map_cons, List.nodup_cons] at h ⊢
    refine ⟨?_, ih h.2 fun a ha b hb => hf a (List.mem_cons_of_mem _ ha) b (List.mem_cons_of_mem _ hb)⟩
    intro hm
    obtain ⟨x, hx, hxe⟩ := List.mem_map.1 hm
    exact h.1 (List.mem_map.2 ⟨x, hx, (hf x (List.mem_cons_of_mem _ hx) g (List.mem_cons_self ..) hxe)⟩)

/-- The three steps of 'n.bags[p] = append(n.bags[p], x)'. -/
theorem net_push {B : Nat} {w : World} {p r : Nat} {nodes bound now : Int} {gs : List Bag} (h : NetAt B w p r nodes bound now gs) (k : Int × Int) (m : Msg) (hm : OBytes 5 w m.val m.bytes) (hm1 : m.val.oneCell' = true)
    {nb : Nat} {f : Nat × Nat} {E' : TypeId} (hnb : w.heap[nb]? = some (.cells #[m.val] E' f)) (hlen : (msgsAt k gs).length < 1000000000) :
    ∃ v0 st W1, (Instr.mapEntry 47 (.map (some r)) (pairV k)).run Try.prog w = .ok (.tuple #[v0, .int .i64 st]) W1 ∧ Keep softN B w W1 ∧
    ∃ v1 W2, (Builtin.append_ #[53, 53] 53 #[v0, .slice (some ⟨nb, 0, none⟩) 1 1]).run Try.prog W1 = .ok v1 W2 ∧ Keep softN B w W2 ∧
    ∃ W3, (Instr.entryStore 47 (.map (some r)) (.int .i64 st) v1).run Try.prog W2 = .ok () W3 ∧ Keep softN B w W3 ∧
    ∃ gs', NetAt B W3 p r nodes bound now gs' ∧ vw gs' = pushV k m (vw gs) := by
  obtain ⟨c, hmap, hborn⟩ := h.map
  obtain ⟨i0, hi0, hz0, hz1, hz2⟩ := info_parts Try.info22
  have hrlt : r < w.heap.size := lt_of_getElem? hmap
  have hnbr : nb ≠ r := fun e => by rw [e, hmap] at hnb; cases hnb
  have hroom := h.room
  have hcellnb : ∀ W1 : World, W1.heap[nb]? = w.heap[nb]? → ∀ j u, [m.val][j]? = some u → W1.cell? ((⟨nb, 0, none⟩ : Addr).add j) = some u := by
    intro W1 h1 j u hu
    rw [Addr.add_lit]
    cases j with
    | zero =>
      simp only [List.getElem?_cons_zero, Option.some.injEq] at hu
      subst hu
      simp [World.cell?, h1, hnb]
    | succ j => simp at hu
  by_cases hk : k ∈ gs.map Bag.key
  · -- the link has a bag
    obtain ⟨g, hg, hgk⟩ := List.mem_map.1 hk
    have hmsgs : msgsAt k gs = g.msgs := by unfold msgsAt; rw [msgsAt_of h.keys hg hgk]; rfl
    rw [hmsgs] at hlen
    have hmem : g.ent ∈ gs.map Bag.ent := List.mem_map_of_mem hg
    have hrun1 := run_mapEntry_old keyOk52 Try.underlying47 hmap (by rw [ent_keys]; exact h.keys) k hmem hgk
    have hN1 : NetAt B (setO w r (.map ((gs.map Bag.ent).map (Ent.raw pairV)).toArray c)) p r nodes bound now gs := netAt_setO h.self hmap h.base gs c hborn h.keys h.borns h.rows h.bags _ rfl
    have hK1 : Keep softN B w (setO w r (.map ((gs.map Bag.ent).map (Ent.raw pairV)).toArray c)) := Keep.setO hmap (softN_map _ _) h.base
    have hb1 : ∀ b, b ≠ r → (setO w r (.map ((gs.map Bag.ent).map (Ent.raw pairV)).toArray c)).heap[b]? = w.heap[b]? := fun b hb => setO_other hb
    have hm1r : (setO w r (.map ((gs.map Bag.ent).map (Ent.raw pairV)).toArray c)).heap[r]? = some (.map ((gs.map Bag.ent).map (Ent.raw pairV)).toArray c) := setO_same hrlt
    have hs1 : (setO w r (.map ((gs.map Bag.ent).map (Ent.raw pairV)).toArray c)).heap.size = w.heap.size := by simp [setO]
    revert hrun1 hN1 hK1 hb1 hm1r hs1
    generalize setO w r (.map ((gs.map Bag.ent).map (Ent.raw pairV)).toArray c) = W1
    intro hrun1 hN1 hK1 hb1 hm1r hs1
    have hgW1 := hN1.bags g hg
    obtain ⟨g', cap', W2, hrun2, hown2, hgr2, hloc, hlt2⟩ := run_append_lies W1 53 53 B 22 i0 (.slice none 0 0) 1 24 Try.underlying53 hi0 hz0 hz1 hz2 rfl (by decide) g.val g.msgs.length (g.msgs.map Msg.val) hgW1.own
      ⟨nb, 0, none⟩ 1 1 [m.val] (by simp) (hcellnb W1 (hb1 nb hnbr)) (by simpa using hm1) (by decide) (by unfold maxLen; omega) (by omega) (by omega) _ rfl
    obtain ⟨arr, harr, hBrow, _⟩ := hgW1.row
    have hK2 : Keep softN B W1 W2 := Keep.grown hgr2 (fun k hk => by cases hk; exact hBrow) (by omega) (fun k o hk ho => by cases hk; rw [harr] at ho; cases ho; exact softN_row _ _)
    have hrow_r : ∀ x ∈ gs, x.row ≠ r := fun x hx e => by
      obtain ⟨arr', h1, _⟩ := (h.bags x hx).row
      rw [e, hmap] at h1; cases h1
    have hm2r : W2.heap[r]? = some (.map ((gs.map Bag.ent).map (Ent.raw pairV)).toArray c) := by
      rw [hgr2.block r (by omega) (by intro e; exact hrow_r g hg (Option.some.inj e).symm), hm1r]
    have hself2 : W2.heap[p]? = some (.cells #[.int .i64 nodes, .int .i64 bound, .int .i64 now, .map (some r)] 49 (0, 0)) := hK2.hard _ _ hN1.self (not_softN (by decide) _ _)
    have hrun3 := run_entryStore (P := Try.prog) (t := 47) hm2r (by rw [ent_keys]; exact h.keys) (by rw [ent_borns]; exact h.borns) (.slice (some ⟨g', 0, none⟩) (g.msgs.length + 1) cap') hmem
    -- the new bags
    let F : Bag → Bag := fun x => if k = x.key then { x with row := g', cap := cap', msgs := x.msgs ++ [m] } else x
    have hFg : ∀ x ∈ gs, k = x.key → x = g := fun x hx hxk => key_inj h.keys hx hg (hxk.symm.trans hgk.symm)
    have hl : putV g.ent.key (.slice (some ⟨g', 0, none⟩) (g.msgs.length + 1) cap') (gs.map Bag.ent) = (gs.map F).map Bag.ent := by
      have : g.ent.key = k := hgk
      rw [this]
      refine putV_bags k _ gs F fun x hx => ?_
      by_cases hxk : k = x.key
      · have := hFg x hx hxk
        subst this
        simp [F, hxk, Bag.ent, Bag.val]
      · simp [F, hxk]
    have hloc' : g' = g.row ∨ g' = W1.heap.size := by
      rcases hloc with e | e
      · left; exact (Option.some.inj e).symm
      · exact .inr e
    have hN3 : NetAt B (setO W2 r (.map ((putV g.ent.key (.slice (some ⟨g', 0, none⟩) (g.msgs.length + 1) cap') (gs.map Bag.ent)).map (Ent.raw pairV)).toArray c)) p r nodes bound now (gs.map F) := by
      refine netAt_setO hself2 hm2r h.base (gs.map F) c ?_ ?_ ?_ ?_ ?_ _ hl
      · intro x hx
        obtain ⟨y, hy, rfl⟩ := List.mem_map.1 hx
        have : (F y).born = y.born := by simp only [F]; split <;> rfl
        rw [this]; exact hborn y hy
      · rw [map_key_eq gs F fun y _ => by simp only [F]; split <;> rfl]; exact h.keys
      · rw [map_born_eq gs F fun y _ => by simp only [F]; split <;> rfl]; exact h.borns
      · refine rows_nodup h.rows fun a ha b hb hab => ?_
        have lt : ∀ x ∈ gs, x.row < W1.heap.size := fun x hx => by
          obtain ⟨arr', h1, _⟩ := (hN1.bags x hx).row
          exact lt_of_getElem? h1
        by_cases hak : k = a.key
        · by_cases hbk : k = b.key
          · rw [hFg a ha hak, hFg b hb hbk]
          · simp only [F, hak, if_true] at hab
            have hbk' : ¬ (a.key = b.key) := fun e => hbk (hak.trans e)
            simp only [hbk', if_false] at hab
            rcases hloc' with e | e
            · rw [hFg a ha hak]; omega
            · have := lt b hb; omega
        · by_cases hbk : k = b.key
          · have hbk' : ¬ (b.key = a.key) := fun e => hak (hbk.trans e)
            simp only [F, hbk, hbk', if_true, if_false] at hab
            rcases hloc' with e | e
            · rw [hFg b hb hbk]; omega
            · have := lt a ha; omega
          · simpa [F, hak, hbk] using hab
      · intro x hx
        obtain ⟨y, hy, rfl⟩ := List.mem_map.1 hx
        by_cases hyk : k = y.key
        · have := hFg y hy hyk
          subst this
          refine ⟨?_, ?_⟩
          · have e1 : (F y).val = .slice (some ⟨g', 0, none⟩) (y.msgs.length + 1) cap' := by simp [F, hyk, Bag.val]
            have e2 : (F y).msgs = y.msgs ++ [m] := by simp [F, hyk]
            rw [e1, e2]
            simpa using hown2
          · intro m' hm'
            have e2 : (F y).msgs = y.msgs ++ [m] := by simp [F, hyk]
            rw [e2] at hm'
            rcases List.mem_append.1 hm' with h1 | h1
            · exact oBytes_hard (oBytes_hard ((h.bags y hy).msg m' h1) hK1) hK2
            · have : m' = m := by simpa using h1
              subst this
              exact oBytes_hard (oBytes_hard hm hK1) hK2
        · have e1 : F y = y := by simp [F, hyk]
          rw [e1]
          obtain ⟨arr', h1, _⟩ := (hN1.bags y hy).row
          refine (hN1.bags y hy).keep hK2 (hgr2.block y.row (lt_of_getElem? h1) ?_)
          intro e
          have : y.row = g.row := Option.some.inj e
          exact hyk ((row_inj h.rows hy hg this).symm ▸ hgk.symm)
    refine ⟨_, _, _, hrun1, hK1, _, _, hrun2, hK1.trans hK2, _, hrun3, (hK1.trans hK2).trans (Keep.setO hm2r (softN_map _ _) h.base), gs.map F, hN3, ?_⟩
    unfold pushV
    rw [vw_keys, if_pos hk]
    unfold vw
    rw [List.map_map, List.map_map]
    apply List.map_congr_left
    intro x hx
    by_cases hxk : k = x.key
    · simp [F, hxk]
    · have : ¬ (x.key = k) := fun e => hxk e.symm
      simp [F, hxk, this]
  · -- a new bag
    have hke : ∀ e ∈ gs.map Bag.ent, k ≠ e.key := fun e he hke => by
      obtain ⟨x, hx, rfl⟩ := List.mem_map.1 he
      exact hk (List.mem_map.2 ⟨x, hx, hke.symm⟩)
    have hrun1 := run_mapEntry_new keyOk52 Try.underlying47 (zero53 w) hmap k hke
    have hK1 : Keep softN B w (setO w r (.map ((gs.map Bag.ent ++ [(⟨k, .slice none 0 0, c⟩ : Ent (Int × Int))]).map (Ent.raw pairV)).toArray (c + 1))) := Keep.setO hmap (softN_map _ _) h.base
    have hb1 : ∀ b, b ≠ r → (setO w r (.map ((gs.map Bag.ent ++ [(⟨k, .slice none 0 0, c⟩ : Ent (Int × Int))]).map (Ent.raw pairV)).toArray (c + 1))).heap[b]? = w.heap[b]? := fun b hb => setO_other hb
    have hm1r : (setO w r (.map ((gs.map Bag.ent ++ [(⟨k, .slice none 0 0, c⟩ : Ent (Int × Int))]).map (Ent.raw pairV)).toArray (c + 1))).heap[r]? = some (.map ((gs.map Bag.ent ++ [(⟨k, .slice none 0 0, c⟩ : Ent (Int × Int))]).map (Ent.raw pairV)).toArray (c + 1)) := setO_same hrlt
    have hs1 : (setO w r (.map ((gs.map Bag.ent ++ [(⟨k, .slice none 0 0, c⟩ : Ent (Int × Int))]).map (Ent.raw pairV)).toArray (c + 1))).heap.size = w.heap.size := by simp [setO]
    revert hrun1 hK1 hb1 hm1r hs1
    generalize setO w r (.map ((gs.map Bag.ent ++ [(⟨k, .slice none 0 0, c⟩ : Ent (Int × Int))]).map (Ent.raw pairV)).toArray (c + 1)) = W1
    intro hrun1 hK1 hb1 hm1r hs1
    obtain ⟨g', cap', W2, hrun2, hown2, hgr2, hloc, hlt2⟩ := run_append_lies W1 53 53 B 22 i0 (.slice none 0 0) 1 24 Try.underlying53 hi0 hz0 hz1 hz2 rfl (by decide) (.slice none 0 0) 0 [] (World.ownsRow_nil _ _ _ _)
      ⟨nb, 0, none⟩ 1 1 [m.val] (by simp) (hcellnb W1 (hb1 nb hnbr)) (by simpa using hm1) (by decide) (by unfold maxLen; omega) (by omega) (by omega) _ rfl
    have hloc' : g' = W1.heap.size := by
      rcases hloc with e | e
      · cases e
      · exact e
    have hK2 : Keep softN B W1 W2 := Keep.grown hgr2 (fun k hk => by cases hk) (by omega) (fun k o hk => by cases hk)
    have hm2r : W2.heap[r]? = some (.map ((gs.map Bag.ent ++ [(⟨k, .slice none 0 0, c⟩ : Ent (Int × Int))]).map (Ent.raw pairV)).toArray (c + 1)) := by
      rw [hgr2.block r (by omega) (by intro e; cases e), hm1r]
    have hself2 : W2.heap[p]? = some (.cells #[.int .i64 nodes, .int .i64 bound, .int .i64 now, .map (some r)] 49 (0, 0)) := hK2.hard _ _ (hK1.hard _ _ h.self (not_softN (by decide) _ _)) (not_softN (by decide) _ _)
    have hnk : ((gs.map Bag.ent ++ [(⟨k, .slice none 0 0, c⟩ : Ent (Int × Int))]).map Ent.key).Nodup := by
      rw [List.map_append, ent_keys]
      refine List.nodup_append.2 ⟨h.keys, by simp, ?_⟩
      intro a ha b hb
      simp only [List.map_cons, List.map_nil, List.mem_singleton] at hb
      subst hb
      intro e; subst e; exact hk ha
    have hnb' : ((gs.map Bag.ent ++ [(⟨k, .slice none 0 0, c⟩ : Ent (Int × Int))]).map Ent.born).Nodup := by
      rw [List.map_append, ent_borns]
      refine List.nodup_append.2 ⟨h.borns, by simp, ?_⟩
      intro a ha b hb
      simp only [List.map_cons, List.map_nil, List.mem_singleton] at hb
      subst hb
      obtain ⟨x, hx, rfl⟩ := List.mem_map.1 ha
      have := hborn x hx
      omega
    have hrun3 := run_entryStore (P := Try.prog) (t := 47) hm2r hnk hnb' (.slice (some ⟨g', 0, none⟩) (0 + 1) cap') (e := ⟨k, .slice none 0 0, c⟩) (by simp)
    have hl : putV k (.slice (some ⟨g', 0, none⟩) (0 + 1) cap') (gs.map Bag.ent ++ [(⟨k, .slice none 0 0, c⟩ : Ent (Int × Int))]) = (gs ++ [(⟨k, c, g', cap', [m]⟩ : Bag)]).map Bag.ent := by
      rw [List.map_append]
      unfold putV
      rw [List.map_append]
      congr 1
      · conv => rhs; rw [← List.map_id (gs.map Bag.ent)]
        apply List.map_congr_left
        intro e he
        simp [hke e he]
      · simp [Bag.ent, Bag.val]
    have hN3 : NetAt B (setO W2 r (.map ((putV k (.slice (some ⟨g', 0, none⟩) (0 + 1) cap') (gs.map Bag.ent ++ [(⟨k, .slice none 0 0, c⟩ : Ent (Int × Int))])).map (Ent.raw pairV)).toArray (c + 1))) p r nodes bound now (gs ++ [(⟨k, c, g', cap', [m]⟩ : Bag)]) := by
      refine netAt_setO hself2 hm2r h.base _ (c + 1) ?_ ?_ ?_ ?_ ?_ _ hl
      · intro x hx
        rcases List.mem_append.1 hx with h1 | h1
        · have := hborn x h1; omega
        · have : x = ⟨k, c, g', cap', [m]⟩ := by simpa using h1
          subst this; simp
      · rw [List.map_append]
        refine List.nodup_append.2 ⟨h.keys, by simp, ?_⟩
        intro a ha b hb
        simp only [List.map_cons, List.map_nil, List.mem_singleton] at hb
        subst hb
        intro e; subst e; exact hk ha
      · rw [List.map_append]
        refine List.nodup_append.2 ⟨h.borns, by simp, ?_⟩
        intro a ha b hb
        simp only [List.map_cons, List.map_nil, List.mem_singleton] at hb
        subst hb
        obtain ⟨x, hx, rfl⟩ := List.mem_map.1 ha
        have := hborn x hx
        omega
      · rw [List.map_append]
        refine List.nodup_append.2 ⟨h.rows, by simp, ?_⟩
        intro a ha b hb
        simp only [List.map_cons, List.map_nil, List.mem_singleton] at hb
        subst hb
        obtain ⟨x, hx, rfl⟩ := List.mem_map.1 ha
        obtain ⟨arr', h1, _⟩ := (h.bags x hx).row
        have := lt_of_getElem? h1
        omega
      · intro x hx
        rcases List.mem_append.1 hx with h1 | h1
        · obtain ⟨arr', h2, _⟩ := (h.bags x h1).row
          have hxr : x.row ≠ r := fun e => by rw [e, hmap] at h2; cases h2
          refine (h.bags x h1).keep (hK1.trans hK2) ?_
          rw [hgr2.block x.row (by have := lt_of_getElem? h2; omega) (by intro e; cases e), hb1 _ hxr]
        · have : x = ⟨k, c, g', cap', [m]⟩ := by simpa using h1
          subst this
          refine ⟨?_, ?_⟩
          · simpa [Bag.val] using hown2
          · intro m' hm'
            have : m' = m := by simpa using hm'
            subst this
            exact oBytes_hard hm (hK1.trans hK2)
    refine ⟨_, _, _, hrun1, hK1, _, _, hrun2, hK1.trans hK2, _, hrun3, (hK1.trans hK2).trans (Keep.setO hm2r (softN_map _ _) h.base), _, hN3, ?_⟩
    unfold pushV
    rw [vw_keys, if_neg hk]
    simp [vw]
end Go.Proofs.Ytbanfilgokideaa
