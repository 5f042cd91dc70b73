/- known returns true, in every world. -/
import Derived.Test.YtbanfilgokideaaN9
import Derived.Lib.SlBytesConst
namespace Go.Proofs.Ytbanfilgokideaa
open Go.RowKit Go.Gl

theorem net_new (w : World) (nodes bound : Int) :
    NetAt w.heap.size ((w.alloc (.map #[] 0)).alloc (.cells #[.int .i64 nodes, .int .i64 bound, .int .i64 0, .map (some w.heap.size)] 49)) (w.heap.size + 1) w.heap.size nodes bound 0 [] := by
  refine ⟨?_, ⟨0, ?_, fun g hg => by cases hg⟩, by simp, by simp, by simp, fun g hg => (by cases hg), Nat.le_refl _, by simp; omega⟩
  · have := heap_alloc_new (w.alloc (.map #[] 0)) (.cells #[.int .i64 nodes, .int .i64 bound, .int .i64 0, .map (some w.heap.size)] 49)
    simpa using this
  · show _ = _
    rw [heap_alloc_old _ _ (by simp)]
    exact heap_alloc_new w _

def NewPost (w : World) (a b : Int) (e : Ending) (w' : World) : Prop := ∃ p r, e = .returned (.tuple #[.pointer (some ⟨p, 0, none⟩), .int .i64 0]) ∧ NetAt w.heap.size w' p r a b 0 [] ∧ Grow w w'

theorem new_net (a b : Int) (w : World) (h1 : 1 ≤ a) (h2 : a ≤ 16) (h3 : 1 ≤ b) (h4 : b ≤ 65536) : Calls Try.prog 7 #[.int .i64 a, .int .i64 b] w (NewPost w a b) :=
  (new_ok a b w h1 h2 h3 h4).mono fun e w' ⟨he, hw⟩ => ⟨_, _, he, hw ▸ net_new w a b, by rw [hw]; (repeat (first | exact Below.refl _ _ | assumption | refine Below.drew ?_ | refine bDrewN ?_ | refine Below.setCell ?_ (by first | omega | (simp <;> omega)) _ | refine Below.alloc ?_ (by first | omega | (simp <;> omega)) _))⟩

theorem bytes_const {w : World} {b : Nat} {x : UInt8} {f : Nat × Nat} (h : w.heap[b]? = some (.cells #[.int .u8 x.toNat] 5 f)) : Bytes w (.slice (some ⟨b, 0, none⟩) 1 1) [x] := by
  refine .inr ⟨b, 0, 1, rfl, lt_of_getElem? h, fun i y hy => ?_⟩
  cases i with
  | zero => simp at hy; subst hy; simp [World.cell?, h]
  | succ i => simp at hy

theorem known_sent {V : View} {n : Nat} {vs : List Value} (h : Sent 3 2 0 [120] [1, 2, 1, 1] (vw []) V n vs) :
    ∃ v1 v2 v3, n = 3 ∧ V = [((0, 1), [⟨v1, [120]⟩, ⟨v3, [120]⟩]), ((0, 2), [⟨v2, [120]⟩])] := by
  simp [Sent, okB, lookV, pushV, vw] at h
  obtain ⟨v1, n1, rfl, vs1, rfl, v2, n2, rfl, vs2, rfl, v3, n3, rfl, vs3, rfl, rfl, rfl, rfl⟩ := h
  exact ⟨v1, v2, v3, rfl, rfl⟩

theorem full_of_view {gs : List Bag} {V : View} (h : vw gs = V) (hV : ∀ x ∈ V, x.2 ≠ []) : ∀ g ∈ gs, g.msgs ≠ [] := fun g hg => by
  have := hV (g.key, g.msgs) (by rw [← h]; exact List.mem_map.2 ⟨g, hg, rfl⟩)
  exact this

theorem ints_cells {w : World} {b : Nat} {ks : List Int} {f : Nat × Nat} {t : TypeId} (h : w.heap[b]? = some (.cells (ks.map (Value.int .i64)).toArray t f)) : ∀ (j : Nat) (k : Int), ks[j]? = some k → w.cell? ⟨b, 0 + j, none⟩ = some (.int .i64 k) := fun j k hk => by
  simp [World.cell?, h, hk]

theorem firm_hard {B : Nat} {w : World} {b : Nat} {arr : Array Value} {t : TypeId} {f : Nat × Nat} (h : w.heap[b]? = some (.cells arr t f)) (ht : t ≠ 22) : Firm softN B w b := .inr ⟨_, h, not_softN ht _ _⟩

/-- A message's value that has bytes. -/
theorem oBytes_form {E : TypeId} {w : World} {v : Value} {x : UInt8} {l : List UInt8} (h : OBytes E w v (x :: l)) : ∃ b c arr, v = .slice (some ⟨b, 0, none⟩) (l.length + 1) c ∧ w.heap[b]? = some (.cells arr E (0, 0)) ∧ arr.size = c := by
  rcases h with ⟨_, h⟩ | ⟨b, c, arr, h1, h2, h3, _⟩
  · cases h
  · exact ⟨b, c, arr, h1, h2, h3⟩

set_option maxRecDepth 100000 in
set_option maxHeartbeats 2000000 in
theorem known_true (w : World) : Calls Try.prog 6 #[] w (fun e w' => e = .returned (.bool true) ∧ Grow w w') := by
  go_enter Try.func6, Try.ntmps6
  go_wp2_with fail
  (with_reducible refine (new_net _ _ _ (by decide) (by decide) (by decide) (by decide)).mono ?_)
  rintro e w0 ⟨p, r, rfl, hN0, hg0⟩
  have kc := Lib.run_convert_bytes_const (P := Try.prog) w0 22 5 #[.int .u8 120] 1 1 Try.underlying22 Try.underlying5
  have HN0 := Lib.hid hN0
  clear hN0
  go_wp2_with fail
  have hgx : Grow w0 ((w0.alloc (.cells #[.int .u8 120] 5 (1, 2))).alloc (.cells #[.int .i64 1, .int .i64 2, .int .i64 1, .int .i64 1] 3)) := by (repeat (first | exact Below.refl _ _ | assumption | refine Below.drew ?_ | refine bDrewN ?_ | refine Below.setCell ?_ (by first | omega | (simp <;> omega)) _ | refine Below.alloc ?_ (by first | omega | (simp <;> omega)) _))
  have hN1 := HN0.out.grow hgx
  have hbx : ((w0.alloc (.cells #[.int .u8 120] 5 (1, 2))).alloc (.cells #[.int .i64 1, .int .i64 2, .int .i64 1, .int .i64 1] 3)).heap[w0.heap.size]? = some (.cells #[.int .u8 120] 5 (1, 2)) := by
    rw [heap_alloc_old _ _ (by simp)]; exact heap_alloc_new _ _
  have hbk : ((w0.alloc (.cells #[.int .u8 120] 5 (1, 2))).alloc (.cells #[.int .i64 1, .int .i64 2, .int .i64 1, .int .i64 1] 3)).heap[w0.heap.size + 1]? = some (.cells #[.int .i64 1, .int .i64 2, .int .i64 1, .int .i64 1] 3 (0, 0)) := by
    have := heap_alloc_new (w0.alloc (.cells #[.int .u8 120] 5 (1, 2))) (.cells #[.int .i64 1, .int .i64 2, .int .i64 1, .int .i64 1] 3)
    simpa using this
  clear kc
  generalize (w0.alloc (.cells #[.int .u8 120] 5 (1, 2))).alloc (.cells #[.int .i64 1, .int .i64 2, .int .i64 1, .int .i64 1] 3) = W1 at *
  have hsend : Calls Try.prog 8 #[.pointer (some ⟨p, 0, none⟩), .int .i64 0, .slice (some ⟨w0.heap.size, 0, none⟩) 1 1, .slice (some ⟨w0.heap.size + 1, 0, none⟩) 4 4] W1 (SendPost w.heap.size W1 p r 3 2 0 (vw []) 0 [120] [1, 2, 1, 1]) :=
    send_some hN1 (by decide) 0 _ [120] (.inr (bytes_const hbx)) (fun b hb _ => by cases hb; exact firm_hard hbx (by decide)) (by decide) _ 0 4 [1, 2, 1, 1] (by decide) (ints_cells hbk) (firm_hard hbk (by decide))
  have Hsend := Lib.hid hsend
  have HK0 : Hid (Keep softN w.heap.size w W1) := Lib.hid (Keep.ofGrow (hg0.trans hgx) (Nat.le_refl _))
  clear hsend hbx hbk hN1 hgx hg0
  (with_reducible refine Hsend.out.mono ?_)
  rintro e w2 ⟨gs2, n, vs, rfl, hn, hN2, hs2, hK2, _⟩
  obtain ⟨v1, v2, v3, rfl, hV2⟩ := known_sent hs2
  have hm2 : msgsAt (0, 1) gs2 = [⟨v1, [120]⟩, ⟨v3, [120]⟩] := by rw [msgsAt_view, hV2]; rfl
  have hf2 := full_of_view hV2 (by simp)
  have hb3 : OBytes 5 w2 v3 [120] := by
    obtain ⟨_, _, m', hm', _, _, ho, _⟩ := hN2.msgAt (k := (0, 1)) (j := 1) (by rw [hm2]; simp)
    rw [hm2] at hm'; cases hm'; exact ho
  obtain ⟨b3, c3, arr3, rfl, hb3h, hb3s⟩ := oBytes_form hb3
  have hdel := deliver_some hN2 hf2 0 1 5 (by rw [hm2]; simp) 1 (by rw [hm2]; simp; decide) ⟨.slice (some ⟨b3, 0, none⟩) 1 c3, [120]⟩ (by rw [hm2]; rfl)
  have Hdel := Lib.hid hdel
  have HK2 := Lib.hid hK2
  have HV2 := Lib.hid hV2
  have Hb3 := Lib.hid hb3
  have HN2 := Lib.hid hN2
  clear hdel hK2 hV2 hb3 hN2 hs2 hn hb3h hb3s hm2 hf2
  go_wp2_with fail
  (with_reducible refine Hdel.out.mono ?_)
  rintro e w3 ⟨rfl, hK3, gs3, hN3, hV3⟩
  rw [HV2.out] at hV3
  have hV3' : vw gs3 = [((0, 1), [⟨v1, [120]⟩]), ((0, 2), [⟨v2, [120]⟩])] := by rw [hV3]; simp [takeV]
  have hb4 := oBytes_hard Hb3.out hK3
  have HK3 := Lib.hid hK3
  have HN3 := Lib.hid hN3
  have HV3 := Lib.hid hV3'
  have hcv : ∀ x, (convert 22 9 (.slice (some ⟨b3, 0, none⟩) 1 c3)).run Try.prog (w3.alloc x) = .ok (.string ⟨#[120]⟩) (w3.alloc x) := fun x =>
    run_string Try.underlying22 Try.underlying5 Try.underlying9 (l := [120]) (Grow.bytes (Grow.alloc w3 x) hb4.bytes)
  clear hK3 hN3 hV3 hV3' hb4
  go_wp2_with fail
  -- the first doubling
  have hN4 := HN3.out.grow (Grow.alloc w3 (.cells #[.int .i64 0, .int .i64 1, .slice (some ⟨b3, 0, none⟩) 1 c3] 31))
  have hm4 : msgsAt (0, 1) gs3 = [⟨v1, [120]⟩] := by rw [msgsAt_view, HV3.out]; rfl
  have hd1 := double_yes hN4 0 1 0 (by rw [hm4]; simp) (by rw [hm4]; simp) (by rw [hm4]; simp) 0 (by rw [hm4]; simp) ⟨v1, [120]⟩ (by rw [hm4]; rfl) (by simp)
  have HK4 : Hid (Keep softN w.heap.size w (w3.alloc (.cells #[.int .i64 0, .int .i64 1, .slice (some ⟨b3, 0, none⟩) 1 c3] 31))) :=
    Lib.hid (((HK0.out.trans HK2.out).trans HK3.out).trans (Keep.ofGrow (Grow.alloc _ _) HN3.out.room))
  have Hd1 := Lib.hid hd1
  clear hd1 hm4 hN4 hcv
  (with_reducible refine Hd1.out.mono ?_)
  rintro e w5 ⟨rfl, hK5, v4, gs5, hN5, hV5, _⟩
  have hV5' : vw gs5 = [((0, 1), [⟨v1, [120]⟩, ⟨v4, [120]⟩]), ((0, 2), [⟨v2, [120]⟩])] := by rw [hV5, HV3.out]; simp [pushV]
  have hm5 : msgsAt (0, 1) gs5 = [⟨v1, [120]⟩, ⟨v4, [120]⟩] := by rw [msgsAt_view, hV5']; rfl
  have hd2 := double_full hN5 0 1 0 (by rw [hm5]; simp) (by rw [hm5]; simp)
  have Hd2 := Lib.hid hd2
  have HN5 := Lib.hid hN5
  have HV5 := Lib.hid hV5'
  have HK5 := Lib.hid hK5
  clear hd2 hm5 hV5 hV5' hN5 hK5
  go_wp2_with fail
  (with_reducible refine Hd2.out.mono ?_)
  rintro e w6 ⟨rfl, hg6⟩
  have ht6 : totV (vw gs5) = 3 := by rw [HV5.out]; rfl
  have ha6 := all_any (HN5.out.grow hg6) (by rw [ht6]; decide)
  rw [ht6] at ha6
  have Ha6 := Lib.hid ha6
  clear ha6 ht6
  go_wp2_with fail
  (with_reducible refine Ha6.out.mono ?_)
  rintro e w7 ⟨rfl, hg7⟩
  go_wp2
  go_ret
  exact ⟨rfl, (HK4.out.trans HK5.out).below.trans ((hg6.trans hg7).mono (by have := HK4.out.size; have := HK5.out.size; omega))⟩
end Go.Proofs.Ytbanfilgokideaa
