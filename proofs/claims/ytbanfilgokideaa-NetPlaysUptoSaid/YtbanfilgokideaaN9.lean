/- net.All: how many messages there are; at most 10^15. -/
import Derived.Test.YtbanfilgokideaaN8
namespace Go.Proofs.Ytbanfilgokideaa
open Go.RowKit Go.Gl

/-- How many messages there are. -/
def totV (V : View) : Nat := (V.map (·.2.length)).sum

def entLen (e : Ent (Int × Int)) : Nat := match e.val with | .slice _ n _ => n | _ => 0

theorem ent_len (gs : List Bag) : ((gs.map Bag.ent).map entLen).sum = totV (vw gs) := by
  unfold totV vw
  rw [List.map_map, List.map_map]
  rfl

def AllInv (w : World) (r : Nat) (l : List (Ent (Int × Int))) (c tot : Nat) (acc : Value) (wr : World) : Prop :=
  ∃ (seen : Array Nat) (c0 n : Nat), acc = .int .i64 n ∧ wr.heap[w.heap.size]? = some (.mapIter (some r) c seen c0) ∧ c ≤ c0 ∧ n + ((unmet seen l).map entLen).sum = tot ∧ Grow w wr

set_option maxHeartbeats 1000000 in
theorem all_any {B : Nat} {w : World} {p r : Nat} {nodes bound now : Int} {gs : List Bag} (h : NetAt B w p r nodes bound now gs) (hmax : totV (vw gs) ≤ 1000000000000000) :
    Calls Try.prog 13 #[.pointer (some ⟨p, 0, none⟩)] w (fun e w' => e = .returned (.int .i64 (totV (vw gs))) ∧ Grow w w') := by
  obtain ⟨c, hm, hborn⟩ := h.map
  have hrange := run_range_map (P := Try.prog) w 47 52 53 r _ c Try.underlying47 hm
  obtain ⟨c0, c1, c2, c3⟩ := h.cells
  have hnb : ((gs.map Bag.ent).map Ent.born).Nodup := by rw [ent_borns]; exact h.borns
  have hold : ∀ e ∈ gs.map Bag.ent, e.born < c := fun e he => by obtain ⟨x, hx, rfl⟩ := List.mem_map.1 he; exact hborn x hx
  have htot := ent_len gs
  have hrs : w.heap.size ≠ r := by have := lt_of_getElem? hm; omega
  have hslice : ∀ e ∈ gs.map Bag.ent, ∃ a cp, e.val = .slice a (entLen e) cp := fun e he => by obtain ⟨x, hx, rfl⟩ := List.mem_map.1 he; exact ⟨_, _, rfl⟩
  generalize gs.map Bag.ent = l at *
  generalize totV (vw gs) = tot at *
  have Hm := Lib.hid hm
  have Hnb := Lib.hid hnb
  have Hold := Lib.hid hold
  have Htot := Lib.hid htot
  have Hsl := Lib.hid hslice
  clear h hborn hnb hold htot hslice hm
  go_enter Try.func13, Try.ntmps13
  go_wp2
  clear hrange
  go_loopw [3] (fun acc wr => AllInv w r l c tot acc wr) (fun _ wr => iterLeft r w.heap.size wr)
  case atStart =>
    refine ⟨#[], c, 0, rfl, heap_alloc_new w _, Nat.le_refl _, ?_, by (repeat (first | exact Below.refl _ _ | assumption | refine Below.drew ?_ | refine bDrewN ?_ | refine Below.setCell ?_ (by first | omega | (simp <;> omega)) _ | refine Below.alloc ?_ (by first | omega | (simp <;> omega)) _))⟩
    rw [← Htot.out, show unmet #[] l = l from List.filter_eq_self.2 (by simp)]; simp
  case round =>
    obtain ⟨seen, c0', n, rfl, hit, hcc, hsum, hg⟩ := hrel
    have hmr : MapAt wr r pairV l c := hg.heap Hm.out
    have hleft := iterLeft_eq hit hmr
    rcases run_next (P := Try.prog) (enc := pairV) (l := l) 0 hit hmr Hold.out hcc hrs Hnb.out with ⟨h1, h2⟩ | ⟨e, w1, he, hrun, hent, hit1, hgr, hsz⟩
    · have Hs : Hid (n = tot) := by rw [h1] at hsum; exact Lib.hid (by simpa using hsum)
      clear h1 hsum hleft hmr hit
      go_wp2
      go_ret
      exact ⟨by rw [← Hs.out]; rfl, hg⟩
    · obtain ⟨a, cp, hv⟩ := Hsl.out e (List.mem_filter.1 he).1
      have hs2 := sum_filter_ne (g := entLen) (unmet_nodup Hnb.out) he
      rw [← unmet_push] at hs2
      have hle2 : n + entLen e ≤ 1000000000000000 := by omega
      rw [hv] at hrun hent
      have Hrel : Hid (AllInv w r l c tot (.int .i64 ((n + entLen e : Nat) : Int)) w1) := Lib.hid ⟨seen.push e.born, c, n + entLen e, rfl, hit1, Nat.le_refl _, by omega, hg.grown hgr (by have := hg.size; omega) (fun k hk => by cases hk; exact Nat.le_refl _)⟩
      have Hmeas : Hid (iterLeft r w.heap.size w1 < iterLeft r w.heap.size wr) := by
        have hm1 : MapAt w1 r pairV l c := (hgr.block r (lt_of_getElem? hmr) (fun e => hrs (Option.some.inj e).symm)).trans hmr
        have h3 := iterLeft_eq hit1 hm1
        refine Lib.hid ?_
        rw [h3, hleft, unmet_push]
        refine Nat.lt_of_le_of_ne (List.length_filter_le _ _) fun h4 => ?_
        have := (List.length_filter_eq_length_iff.1 h4) e he
        simp at this
      generalize entLen e = m at *
      simp only [pairV] at hrun hent
      clear hs2 hv hleft hmr hit hit1 hgr he hsum hg
      go_wp2
      go_roundw
      case rel => exact Hrel.out
      case measure => exact Hmeas.out
end Go.Proofs.Ytbanfilgokideaa
