/- net.Links: the links that have messages, sorted; under the sort's contract. -/
import Derived.Test.YtbanfilgokideaaS2
namespace Go.Proofs.Ytbanfilgokideaa
open Go.RowKit Go.Gl

def lkEnt (e : Ent (Int × Int)) : Lk := (e.key.1, e.key.2, (entLen e : Int))
def lcells (ls : List Lk) : List Value := ls.flatMap encLk

theorem lcells_len (ls : List Lk) : (lcells ls).length = ls.length * 3 := by
  induction ls with
  | nil => rfl
  | cons x ls ih => simp only [lcells, List.flatMap_cons, List.length_append, List.length_cons] at *; rw [ih]; simp [encLk]; omega

theorem lcells_snoc (ls : List Lk) (x : Lk) : lcells (ls ++ [x]) = lcells ls ++ encLk x := by simp [lcells]

theorem perm_filter_ne {κ : Type} : ∀ {l : List (Ent κ)} {x : Ent κ}, (l.map Ent.born).Nodup → x ∈ l → l.Perm (x :: l.filter fun e => decide (e.born ≠ x.born))
  | [], _, _, h => by cases h
  | y :: l, x, hn, h => by
    simp only [List.map_cons, List.nodup_cons] at hn
    by_cases hyx : y.born = x.born
    · have hxy : x = y := by
        rcases List.mem_cons.1 h with h | h
        · exact h
        · exact absurd (List.mem_map.2 ⟨x, h, hyx.symm⟩) hn.1
      subst hxy
      have : l.filter (fun e => decide (e.born ≠ x.born)) = l := List.filter_eq_self.2 fun e he => by
        simp only [decide_eq_true_eq]
        intro e1; exact hn.1 (List.mem_map.2 ⟨e, he, e1⟩)
      rw [List.filter_cons_of_neg (by simp), this]
    · have hx : x ∈ l := by
        rcases List.mem_cons.1 h with h | h
        · exact absurd (by rw [h]) hyx
        · exact h
      rw [List.filter_cons_of_pos (by simpa using hyx)]
      exact ((perm_filter_ne hn.2 hx).cons y).trans (List.Perm.swap x y _)

def LinksInv (w : World) (r : Nat) (l : List (Ent (Int × Int))) (c : Nat) (lv : Value) (wr : World) : Prop :=
  ∃ (seen : Array Nat) (c0 : Nat) (done : List Lk) (la : Option Addr) (ln lc : Nat), lv = .slice la ln lc ∧ wr.heap[w.heap.size]? = some (.mapIter (some r) c seen c0) ∧ c ≤ c0 ∧ wr.ownsRow w.heap.size 69 3 (.slice la ln lc) done.length (lcells done) ∧ (done ++ (unmet seen l).map lkEnt).Perm (l.map lkEnt) ∧ Grow w wr

theorem Try.info69 : (Try.prog.info? 69).map (fun i => (i.zero, i.size, i.bytes)) = some (some (.agg #[.int .i64 0, .int .i64 0, .int .i64 0]), 3, 24) := by kernel_rfl

/-- A row of links in memory. -/
def LinkRow (w : World) (v : Value) (ls : List Lk) : Prop :=
  ∃ a c, v = .slice a ls.length c ∧ (ls = [] ∨ ∃ b, a = some ⟨b, 0, none⟩ ∧ b < w.heap.size ∧ ∀ (i : Nat) (x : Lk), ls[i]? = some x → w.cell? ⟨b, i * 3, none⟩ = some (.int .i64 x.1) ∧ w.cell? ⟨b, i * 3 + 1, none⟩ = some (.int .i64 x.2.1) ∧ w.cell? ⟨b, i * 3 + 2, none⟩ = some (.int .i64 x.2.2))

/-- What the sort is asked. -/
def SortsLk : Prop := ∀ (w : World) (g cap : Nat) (ls : List Lk), w.ownsRow 0 69 3 (.slice (some ⟨g, 0, none⟩) ls.length cap) ls.length (lcells ls) → ls.length < 1000000000 →
  Calls Try.prog 35 #[.slice (some ⟨g, 0, none⟩) ls.length cap, .func (.func 36) #[] #[]] w fun e w' => e = .returned (.tuple #[]) ∧ ∃ ls', ls'.Perm ls ∧ ls'.Pairwise (fun x y => cfLk x y ≤ 0) ∧ LinkRow w' (.slice (some ⟨g, 0, none⟩) ls.length cap) ls' ∧ w.grownBy w' (some g)
def SortsNone : Prop := ∀ (w : World) (p : Option Addr) (cap : Nat) (fv : Value), Calls Try.prog 35 #[.slice p 0 cap, fv] w fun e w' => e = .returned (.tuple #[]) ∧ w' = w

theorem ownsRow_zero {w : World} {B : Nat} {e : TypeId} {k : Nat} {v : Value} {n : Nat} {xs : List Value} (h : w.ownsRow B e k v n xs) : w.ownsRow 0 e k v n xs := by
  refine ⟨h.1, ?_⟩
  rcases h.2 with h1 | ⟨g, cap, cur, h1, h2, h3⟩
  · exact .inl h1
  · exact .inr ⟨g, cap, cur, h1, Nat.zero_le _, h3⟩

def LinksPost (w : World) (l : List Lk) (e : Ending) (w' : World) : Prop :=
  ∃ v ls, e = .returned v ∧ LinkRow w' v ls ∧ ls.Perm l ∧ ls.Pairwise (fun x y => cfLk x y ≤ 0) ∧ Grow w w'

set_option maxHeartbeats 2000000 in
theorem links_run (hS : SortsLk) (hN : SortsNone) {B : Nat} {w : World} {p r : Nat} {nodes bound now : Int} {gs : List Bag} (h : NetAt B w p r nodes bound now gs) (hmax : gs.length < 1000000000) :
    Calls Try.prog 28 #[.pointer (some ⟨p, 0, none⟩)] w (LinksPost w ((gs.map Bag.ent).map lkEnt)) := by
  obtain ⟨c, hm, hborn⟩ := h.map
  have hrange := run_range_map (P := Try.prog) w 47 52 53 r _ c Try.underlying47 hm
  obtain ⟨c0, c1, c2, c3⟩ := h.cells
  have hnb : ((gs.map Bag.ent).map Ent.born).Nodup := by rw [ent_borns]; exact h.borns
  have hold : ∀ e ∈ gs.map Bag.ent, e.born < c := fun e he => by obtain ⟨x, hx, rfl⟩ := List.mem_map.1 he; exact hborn x hx
  have hrs : w.heap.size ≠ r := by have := lt_of_getElem? hm; omega
  have hslice : ∀ e ∈ gs.map Bag.ent, ∃ a cp, e.val = .slice a (entLen e) cp := fun e he => by obtain ⟨x, hx, rfl⟩ := List.mem_map.1 he; exact ⟨_, _, rfl⟩
  have hlen : (gs.map Bag.ent).length < 1000000000 := by simpa using hmax
  generalize gs.map Bag.ent = l at *
  have Hm := Lib.hid hm
  have Hnb := Lib.hid hnb
  have Hold := Lib.hid hold
  have Hsl := Lib.hid hslice
  have HS := Lib.hid hS
  have HN := Lib.hid hN
  clear h hborn hnb hold hslice hm hS hN
  go_enter Try.func28, Try.ntmps28
  go_wp2
  clear hrange
  go_loopw [3] (fun lv wr => LinksInv w r l c lv wr) (fun _ wr => iterLeft r w.heap.size wr)
  case atStart =>
    refine ⟨#[], c, [], none, 0, 0, rfl, heap_alloc_new w _, Nat.le_refl _, World.ownsRow_nil _ _ _ _, ?_, by (repeat (first | exact Below.refl _ _ | assumption | refine Below.drew ?_ | refine bDrewN ?_ | refine Below.setCell ?_ (by first | omega | (simp <;> omega)) _ | refine Below.alloc ?_ (by first | omega | (simp <;> omega)) _))⟩
    rw [show unmet #[] l = l from List.filter_eq_self.2 (by simp)]; simp
  case round =>
    obtain ⟨seen, c0', done, la, ln, lc, rfl, hit, hcc, hown, hperm, hg⟩ := hrel
    have hmr : MapAt wr r pairV l c := hg.heap Hm.out
    have hleft := iterLeft_eq hit hmr
    rcases run_next (P := Try.prog) (enc := pairV) (l := l) 0 hit hmr Hold.out hcc hrs Hnb.out with ⟨h1, h2⟩ | ⟨e, w1, he, hrun, hent, hit1, hgr, hsz⟩
    · rw [h1] at hperm
      have Hp : Hid (done.Perm (l.map lkEnt)) := Lib.hid (by simpa using hperm)
      have Hown := Lib.hid hown
      have Hg := Lib.hid hg
      clear h1 hleft hmr hit hown hperm hg
      go_wp2_with fail
      have hrow := Hown.out
      have hlen2 : done.length < 1000000000 := by have := Hp.out.length_eq; simp at this; omega
      rcases hrow.2 with ⟨e1, e2⟩ | ⟨g, cap, cur, e1, hge, e2⟩
      · cases e1
        have hd : done = [] := List.eq_nil_of_length_eq_zero e2
        subst hd
        have hN0 : Calls Try.prog 35 #[.slice none 0 0, .func (.func 36) #[] #[]] wr _ := HN.out wr none 0 (.func (.func 36) #[] #[])
        (with_reducible refine hN0.mono ?_)
        clear hN0
        rintro e w' ⟨rfl, rfl⟩
        go_wp2
        go_ret
        exact ⟨_, [], rfl, ⟨none, 0, rfl, .inl rfl⟩, Hp.out, List.Pairwise.nil, Hg.out⟩
      · cases e1
        have hS := HS.out wr g lc done (ownsRow_zero Hown.out) hlen2
        have Hge := Lib.hid hge
        clear hrow e2 hge
        (with_reducible refine hS.mono ?_)
        clear hS
        rintro e w' ⟨rfl, ls', hp', hs', hrow', hgr'⟩
        have Hp' := Lib.hid hp'
        have Hs' := Lib.hid hs'
        have Hr' := Lib.hid hrow'
        have Hg' := Lib.hid hgr'
        clear hp' hs' hrow' hgr'
        go_wp2
        go_ret
        exact ⟨_, ls', rfl, Hr'.out, Hp'.out.trans Hp.out, Hs'.out, Hg.out.grown Hg'.out Hg.out.size (fun k hk => by cases hk; exact Hge.out)⟩
    · obtain ⟨a, cp, hv⟩ := Hsl.out e (List.mem_filter.1 he).1
      have hpm := perm_filter_ne (unmet_nodup Hnb.out) he
      rw [← unmet_push] at hpm
      rw [hv] at hrun hent
      have hlen2 : done.length < 1000000000 := by have := hperm.length_eq; simp at this; omega
      have hlk : lkEnt e = (e.key.1, e.key.2, (entLen e : Int)) := rfl
      generalize entLen e = m at *
      generalize he1 : e.key.1 = k1 at *
      generalize he2 : e.key.2 = k2 at *
      simp only [pairV, he1, he2] at hrun hent
      have hown1 : w1.ownsRow w.heap.size 69 3 (.slice la ln lc) done.length (lcells done) := hown.kept hgr (.inr fun e1 => by
        rcases hown.2 with ⟨e2, _⟩ | ⟨g, cap, cur, e2, _, e3, _⟩
        · rw [e2] at e1; cases e1
        · rw [e2] at e1
          have e4 : g = w.heap.size := Option.some.inj e1
          rw [e4, hit] at e3; cases e3)
      have hsw : w.heap.size < w1.heap.size := lt_of_getElem? hit1
      have hg1 : Grow w w1 := hg.grown hgr hg.size (fun k hk => by cases hk; exact Nat.le_refl _)
      obtain ⟨i0, hi0, hz0, hz1, hz2⟩ := info_parts Try.info69
      have hnw : ((w1.alloc (.cells #[.int .i64 k1, .int .i64 k2] 52)).alloc (.cells #[.int .i64 k1, .int .i64 k2, .int .i64 m] 69)).heap[wr.heap.size + 1]? = some (.cells #[.int .i64 k1, .int .i64 k2, .int .i64 m] 69 (0, 0)) := by
        have := heap_alloc_new (w1.alloc (.cells #[.int .i64 k1, .int .i64 k2] 52)) (.cells #[.int .i64 k1, .int .i64 k2, .int .i64 m] 69)
        simpa [hsz] using this
      have hgW : Grow w1 ((w1.alloc (.cells #[.int .i64 k1, .int .i64 k2] 52)).alloc (.cells #[.int .i64 k1, .int .i64 k2, .int .i64 m] 69)) := by (repeat (first | exact Below.refl _ _ | assumption | refine Below.drew ?_ | refine bDrewN ?_ | refine Below.setCell ?_ (by first | omega | (simp <;> omega)) _ | refine Below.alloc ?_ (by first | omega | (simp <;> omega)) _))
      have hsW := hgW.size
      obtain ⟨g2, cap2, w2, hrun2, hown2, hgr2, hloc2, hlt2⟩ := run_append_lies (P := Try.prog) ((w1.alloc (.cells #[.int .i64 k1, .int .i64 k2] 52)).alloc (.cells #[.int .i64 k1, .int .i64 k2, .int .i64 m] 69)) 65 65 w.heap.size 69 i0 _ 3 24 Try.underlying65 hi0 hz0 hz1 hz2 rfl (by decide) _ _ _ ((hown1.alloc _).alloc _)
        ⟨wr.heap.size + 1, 0, none⟩ 1 1 [.int .i64 k1, .int .i64 k2, .int .i64 m] (by simp) (fun j u hu => World.news_of_block hnw j u (by simpa using hu)) (fun u hu => by simp only [List.mem_cons, List.not_mem_nil, or_false] at hu; rcases hu with rfl | rfl | rfl <;> rfl) (by decide) (by unfold maxLen; omega) (by omega) (by omega) _ rfl
      have Hrun2 := Lib.hid hrun2
      have hg2 : Grow w w2 := (hg1.trans hgW).grown hgr2 (by omega) (fun k hk => (hown1.lt k hk).1)
      have hit2 : w2.heap[w.heap.size]? = some (.mapIter (some r) c (seen.push e.born) c) := by
        rw [hgr2.block w.heap.size (by omega) (fun e1 => ?_)]
        · exact hgW.heap hit1
        · rcases hown1.2 with ⟨e2, _⟩ | ⟨g, cap, cur, e2, _, e3, _⟩
          · rw [e2] at e1; cases e1
          · rw [e2] at e1
            have e4 : w.heap.size = g := Option.some.inj e1
            rw [← e4, hit1] at e3; cases e3
      have Hrel : Hid (LinksInv w r l c (.slice (some ⟨g2, 0, none⟩) (done.length + 1) cap2) w2) := by
        refine Lib.hid ⟨seen.push e.born, c, done ++ [lkEnt e], _, _, _, rfl, hit2, Nat.le_refl _, ?_, ?_, hg2⟩
        · rw [lcells_snoc, List.length_append, hlk]; exact hown2
        · refine List.Perm.trans ?_ hperm
          rw [List.append_assoc]
          exact List.Perm.append_left _ (by simpa using (hpm.map lkEnt).symm)
      have Hmeas : Hid (iterLeft r w.heap.size w2 < iterLeft r w.heap.size wr) := by
        have hm2 : MapAt w2 r pairV l c := hg2.heap Hm.out
        have h3 := iterLeft_eq hit2 hm2
        refine Lib.hid ?_
        rw [h3, hleft, unmet_push]
        refine Nat.lt_of_le_of_ne (List.length_filter_le _ _) fun h4 => ?_
        have := (List.length_filter_eq_length_iff.1 h4) e he
        simp at this
      clear hv hleft hmr hit hit1 hgr he hperm hg hpm hown hlk he1 he2 hown1 hg1 hi0 hz0 hz1 hz2 hnw hgW hsW hrun2 hown2 hgr2 hloc2 hlt2 hg2 hit2
      go_wp2_with (at_builtin; refine wpList_append rfl rfl rfl rfl Hrun2.out ?_)
      go_roundw
      case rel => exact Hrel.out
      case measure => exact Hmeas.out
end Go.Proofs.Ytbanfilgokideaa
