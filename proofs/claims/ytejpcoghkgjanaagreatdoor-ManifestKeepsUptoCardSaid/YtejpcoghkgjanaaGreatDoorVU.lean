/- Merged out of KJ, KL, KM: helpers. -/
import Derived.Test.YtejpcoghkgjanaaGreatDoorVT
import Derived.Test.YtejpcoghkgjanaaGreatDoorVI
/- manifest.Open: the set is made and opened; no other manifest lies there. -/
namespace Go.Proofs.YtejpcoghkgjanaaGreatDoor
open Go.RowKit Go.Gl Go.Wal Go.Sort Mn

theorem look_mem {n : ByteArray} : ∀ {V : Vw}, lookV n V ≠ none ↔ n ∈ V.map (·.1)
  | [] => by simp [lookV]
  | e :: V => by
    rw [look_cons, List.map_cons, List.mem_cons, ← look_mem (V := V)]
    by_cases h : n = e.1 <;> simp [h]

theorem one_list {α : Type} {m : α} : ∀ {l : List α}, l.Nodup → m ∈ l → (∀ x ∈ l, x = m) → l = [m]
  | [], _, h, _ => by cases h
  | a :: t, hn, _, h => by
    have ha : a = m := h a (by simp)
    subst ha
    cases t with
    | nil => rfl
    | cons b t =>
      have hb : b = a := h b (by simp)
      subst hb
      exact absurd (by simp) (List.nodup_cons.1 hn).1

theorem filter_one {V : Vw} (hN : NamesV V) {P : ByteArray → Bool} {m : ByteArray} (h1 : lookV m V ≠ none) (h2 : P m = true) (h3 : ∀ k, P k = true → lookV k V ≠ none → k = m) : (V.map (·.1)).filter P = [m] :=
  one_list (List.Pairwise.filter _ hN) (List.mem_filter.2 ⟨look_mem.1 h1, h2⟩) (fun x hx => by
    obtain ⟨h4, h5⟩ := List.mem_filter.1 hx
    exact h3 x h5 (look_mem.2 h4))

abbrev manP : ByteArray := ⟨#[109, 97, 110, 105, 102, 101, 115, 116, 45]⟩
/-- One manifest, of that number. -/
def OneMan (f : Lk) (n : Nat) : Prop := f (manN n) ≠ none ∧ ∀ k : ByteArray, Lib.hasPrefix k.data.toList mPre = true → f k ≠ none → k = manN n

theorem pre_man (n : Nat) : Lib.hasPrefix (manN n).data.toList mPre = true := by
  show Lib.hasPrefix (mPre ++ padD n) mPre = true
  unfold Lib.hasPrefix
  simp

theorem dl_list {Z B : Nat} {w : World} {p r : Nat} {f : Lk} {T K : Nat} {F : Nat → Prop} (h : Dl Z B w p r f T K F) (hK : K < 1000000000) {n : Nat} (ho : OneMan f n) {qb : Nat} (hq : w.heap[qb]? = some (.cells #[.string manP] 9 (0, 0))) :
    Calls Tryz.prog 17 #[.pointer (some ⟨p, 0, none⟩), .slice (some ⟨qb, 0, none⟩) 1 1] w fun e w' => ∃ g cap, e = .returned (.slice (some ⟨g, 0, none⟩) 1 cap) ∧ w'.cell? ⟨g, 0, none⟩ = some (.string (manN n)) ∧ g < w'.heap.size ∧ Grow w w' := by
  obtain ⟨V, hd, rfl, _, hV⟩ := h
  have hN := hd.names
  obtain ⟨hZ, h0, born, fs, h1, rfl, rfl⟩ := hd
  have hl := list_pre h1 (by simp [vw] at hV; omega) manP hq
  have he : pick (fun s => Lib.hasPrefix s.data.toList manP.data.toList) (fs.map Fe.ent) = (((vw fs).map (·.1)).filter fun s => Lib.hasPrefix s.data.toList manP.data.toList).map fun s => s.data.toList := by
    unfold pick
    rw [names_vw, List.filter_map, List.filter_map, List.map_map, List.map_map]
    rfl
  rw [he, filter_one hN (m := manN n) ho.1 (pre_man n) (fun k hk hs => ho.2 k hk hs)] at hl
  refine hl.mono ?_
  rintro e w' ⟨v, rfl, hrow, hg⟩
  rcases hrow.2 with ⟨rfl, hn0⟩ | ⟨g, cap, cur, rfl, hge, hgN, hnc, hcm, hcs, htk⟩
  · cases hn0
  · refine ⟨g, cap, rfl, ?_, lt_of_getElem? hgN, hg⟩
    have h2 : (cur.toList.take 1)[0]? = some (.string (manN n)) := by
      have : cur.toList.take (1 * 1) = [Value.string (manN n)] := by
        have e1 : ([manN n].map (fun s : ByteArray => s.data.toList)).mergeSort (fun x y => decide (x ≤ y)) = [(manN n).data.toList] := List.mergeSort_singleton _
        rw [e1] at htk
        exact htk
      rw [this]; rfl
    rw [List.getElem?_take] at h2
    have h3 : cur[0]? = some (.string (manN n)) := by simpa using h2
    simp [World.cell?, hgN, h3]

theorem trim_man (n : Nat) (w : World) : Calls Tryz.prog 19 #[.string (manN n), .string manP] w fun e w' => e = .returned (.string ⟨(padD n).toArray⟩) ∧ w' = w := by
  refine (trimP_any (manN n) manP w).mono ?_
  rintro e w' ⟨he, hw⟩
  refine ⟨?_, hw⟩
  have h5 : Lib.trimPrefix (manN n).data.toList manP.data.toList = padD n := by
    show Lib.trimPrefix (mPre ++ padD n) mPre = padD n
    unfold Lib.trimPrefix Lib.hasPrefix
    simp
  rw [h5] at he
  exact he
end Go.Proofs.YtejpcoghkgjanaaGreatDoor

/- manifest.Open: the walk. -/
namespace Go.Proofs.YtejpcoghkgjanaaGreatDoor
open Go.RowKit Go.Gl Go.Wal Go.Sort Mn

/-- What the set's 'open' leaves. -/
def OpPost (Z B : Nat) (w1 : World) (p r : Nat) (sb : Nat) (Q : VerD → Nat → Lk → Nat → Nat → Prop) (e : Ending) (w' : World) : Prop :=
  e = .returned .nilIface ∧ ∃ tv V n f' T' K' F', SetAt w' sb p tv V (n : Nat) ∧ Own 0 w' tv V.tabs ∧ Dl Z B w' p r f' T' K' F' ∧ Rl B w1 w' ∧ OneMan f' n ∧ Q V n f' T' K'

set_option maxRecDepth 100000 in
set_option maxHeartbeats 8000000 in
theorem Open_any {Z B N : Nat} {w : World} {p r : Nat} {f : Lk} {T K : Nat} {F : Nat → Prop} (h : Dl Z B w p r f T K F) (hN : Nums N B w) {Q : VerD → Nat → Lk → Nat → Nat → Prop} (hQ : ∀ V n f' T' K', Q V n f' T' K' → n < N ∧ n < 1000000 ∧ K' < 1000000000)
    (hopen : ∀ w1 sb, Grow w w1 → w.heap.size ≤ sb → SetAt w1 sb p (.slice none 0 0) verZero 0 → Calls Tryz.prog 16 #[.pointer (some ⟨sb, 0, none⟩)] w1 (OpPost Z B w1 p r sb Q)) :
    Calls Tryz.prog 6 #[.pointer (some ⟨p, 0, none⟩)] w fun e w' => ∃ sb, e = .returned (.tuple #[.pointer (some ⟨sb, 0, none⟩), .nilIface]) ∧ B ≤ sb ∧ ∃ tv V n f' T' K' F', SetAt w' sb p tv V (n : Nat) ∧ Own 0 w' tv V.tabs ∧ Dl Z B w' p r f' T' K' F' ∧ Rl B w w' ∧ Q V n f' T' K' := by
  have hga := Grow.alloc w (.cells (setCells p (.slice none 0 0) verZero 0) 58)
  have hS1 : SetAt (w.alloc (.cells (setCells p (.slice none 0 0) verZero 0) 58)) w.heap.size p (.slice none 0 0) verZero 0 := heap_alloc_new w _
  have Hop := Lib.hid (hopen _ w.heap.size hga (Nat.le_refl _) hS1)
  have hBs := h.base
  have Hga := Lib.hid hga
  have HN := Lib.hid hN
  have HQ := Lib.hid hQ
  clear hga hS1 hopen h hN hQ
  go_enter Tryz.func6, Tryz.ntmps6
  go_upto_region 2 with fail
  have hgeq : w.alloc (.cells (setCells p (.slice none 0 0) verZero 0) 58) = w.alloc (.cells #[.pointer (some ⟨p, 0, none⟩), .slice none 0 0, .int .u64 0, .int .i64 0, .int .i64 0, .int .i64 0] 58) := rfl
  rw [hgeq] at Hop Hga
  clear hgeq
  generalize w.alloc (.cells #[.pointer (some ⟨p, 0, none⟩), .slice none 0 0, .int .u64 0, .int .i64 0, .int .i64 0, .int .i64 0] 58) = w1 at *
  have hsbB : B ≤ w.heap.size := hBs
  obtain ⟨sb, hsbe⟩ : ∃ x, x = w.heap.size := ⟨_, rfl⟩
  rw [← hsbe] at hsbB
  have Hga' := Lib.hid (Rl.grow Hga.out hBs)
  rw [← hsbe] at Hop ⊢
  clear hsbe hBs
  go_wp2_with fail
  (with_reducible refine Hop.out.mono ?_)
  rintro e w2 ⟨rfl, tv, V, n, f', T', K', F', hS2, hown2, hd2, hr2, hone, hq⟩
  have HS2 := Lib.hid hS2
  have Hown2 := Lib.hid hown2
  have Hd2 := Lib.hid hd2
  have Hr2 := Lib.hid (Hga'.out.trans hr2)
  have Hone := Lib.hid hone
  have Hq := Lib.hid hq
  obtain ⟨hn, h6, hK⟩ := HQ.out _ _ _ _ _ hq
  have HN2 := Lib.hid (HN.out.keep (w' := w2) (fun b hb => (Hga'.out.trans hr2).below.block b hb))
  clear hS2 hown2 hd2 hr2 hone hq Hop Hga Hga' HN HQ
  obtain ⟨c0, _, _, _, _, _, ls⟩ := HS2.out.cells
  have hg3 := Grow.alloc w2 (.cells #[.string manP] 9)
  have Hl := Lib.hid (dl_list (Hd2.out.grow hg3) hK Hone.out (heap_alloc_new _ _))
  have Hg3 := Lib.hid hg3
  clear hg3
  go_wp2_with fail
  (with_reducible refine Hl.out.mono ?_)
  rintro e w3 ⟨g, cap, rfl, hc, hgs, hg4⟩
  have hg24 := Hg3.out.trans hg4
  have HS3 := Lib.hid (HS2.out.grow hg24)
  have Hown3 := Lib.hid (owns_grow Hown2.out hg24)
  have Hd3 := Lib.hid (Hd2.out.grow hg24)
  have Hr3 := Lib.hid (Hr2.out.trans (Rl.grow hg24 Hd2.out.base))
  have HN3 := Lib.hid (HN2.out.grow hg24 Hd2.out.base)
  clear Hg3 c0 ls hg4 hg24 HS2 Hown2 Hd2 Hr2 HN2 Hl
  have Ht := Lib.hid (trim_man n w3)
  have Ha := Lib.hid (atoi_call h6 w3)
  go_wp2_with fail
  refine wp_loop_rounds 2 ?_
  rw [rounds_succ]
  go_wp2_with fail
  (with_reducible refine Ht.out.mono ?_)
  rintro e w4 ⟨rfl, hw4⟩
  have hw4' := hw4.symm
  subst hw4'
  clear hw4
  go_wp2_with fail
  (with_reducible refine Ha.out.mono ?_)
  rintro e w5 ⟨rfl, hg5⟩
  have HS5 := Lib.hid (HS3.out.grow hg5)
  have Hown5 := Lib.hid (owns_grow Hown3.out hg5)
  have Hd5 := Lib.hid (Hd3.out.grow hg5)
  have Hr5 := Lib.hid (Hr3.out.trans (Rl.grow hg5 Hd3.out.base))
  have Hm := Lib.hid (mname_any (HN3.out.grow hg5 Hd3.out.base) hn h6)
  have hn9 : (n : Int) ≤ 999999999 := by omega
  clear hg5 HS3 Hown3 Hd3 Hr3 HN3 Ht Ha hc hgs
  go_wp2_with fail
  (with_reducible refine Hm.out.mono ?_)
  rintro e w6 ⟨rfl, hg6⟩
  obtain ⟨_, _, _, _, _, c5, ls⟩ := (HS5.out.grow hg6).cells
  have HS6 := Lib.hid (HS5.out.grow hg6)
  have Hown6 := Lib.hid (owns_grow Hown5.out hg6)
  have Hd6 := Lib.hid (Hd5.out.grow hg6)
  have Hr6 := Lib.hid (Hr5.out.trans (Rl.grow hg6 Hd5.out.base))
  clear hg6 HS5 Hown5 Hd5 Hr5 Hm
  go_wp2_with fail
  rw [rounds_succ]
  go_wp2
  go_ret2
  exact ⟨sb, rfl, hsbB, tv, V, n, f', T', K', F', HS6.out, Hown6.out, Hd6.out, Hr6.out, Hq.out⟩
end Go.Proofs.YtejpcoghkgjanaaGreatDoor

/- The law's few: the sum of the keys' lengths too. -/
namespace Go.Proofs.YtejpcoghkgjanaaGreatDoor
open Go.RowKit Go.Gl Go.Wal Mn

def FewSum (w : World) (l : List Tb) (nv iv : Value) (wr : World) : Prop := ∃ i : Nat, nv = .int .i64 (keyN (l.take i)) ∧ iv = .int .i64 i ∧ i ≤ l.length ∧ Grow w wr

theorem keyN_snoc {l : List Tb} {i : Nat} {t : Tb} (h : l[i]? = some t) : keyN (l.take (i + 1)) = keyN (l.take i) + t.first.size + t.last.size := by
  rw [List.take_add_one, h, keyN_append]
  simp [keyN]; omega

set_option maxRecDepth 100000 in
set_option maxHeartbeats 4000000 in
theorem few_sum {w : World} {av dv : Value} {E : EdD} (hA : Tabs w av E.add) (hD : Ints w dv E.drop) (hal : E.add.length ≤ 9223372036854775807) (hk : keyN E.add ≤ 1048576) :
    Calls Tryz.prog 7 #[.agg (edCells av dv E.seq E.next E.wal)] w fun e w' => ∃ r : Bool, e = .returned (.bool r) ∧ (r = true → E.add.length ≤ 20 ∧ E.drop.length ≤ 20 ∧ keyN E.add ≤ 10000) ∧ Grow w w' := by
  have hg0 : Grow w (w.alloc (.cells (edCells av dv E.seq E.next E.wal) 41)) := Grow.alloc _ _
  have hb : (w.alloc (.cells (edCells av dv E.seq E.next E.wal) 41)).heap[w.heap.size]? = some (.cells (edCells av dv E.seq E.next E.wal) 41 (0, 0)) := heap_alloc_new _ _
  obtain ⟨aa, ac, rfl, har⟩ := hA
  obtain ⟨da, dc, rfl, _, _⟩ := hD
  obtain ⟨c0, c1, c2, c3, c4⟩ := cells5 hb
  have l1 := lt_of_getElem? hb
  have Hg0 := Lib.hid hg0
  have Har := Lib.hid har
  clear hb hg0 har
  go_enter Tryz.func7, Tryz.ntmps7
  go_wp2_with fail
  generalize w.alloc (.cells (edCells (.slice aa E.add.length ac) (.slice da E.drop.length dc) E.seq E.next E.wal) 41) = W1 at *
  have hcl := Grow.cells (w := W1)
  go_loopw [3, 4] (fun nv iv wr => FewSum W1 E.add nv iv wr) (fun _ iv _ => E.add.length - (intOf iv).toNat)
  case atStart => exact ⟨0, rfl, rfl, Nat.zero_le _, Grow.refl _⟩
  case round =>
    obtain ⟨i, rfl, rfl, hi, hg⟩ := hrel
    have d0 := hcl wr w.heap.size 0 hg l1
    rw [c0] at d0
    have d1 := hcl wr w.heap.size 1 hg l1
    rw [c1] at d1
    by_cases hlt : i < E.add.length
    · obtain ⟨t, ht⟩ : ∃ t, E.add[i]? = some t := ⟨E.add[i], by simp [hlt]⟩
      obtain ⟨b, o, rfl, hbl, hrd⟩ : ∃ b o, aa = some ⟨b, o, none⟩ ∧ b < w.heap.size ∧ Rd w b o encTb 5 E.add := by
        rcases Har.out with h1 | h1
        · rw [h1] at hlt; simp at hlt
        · exact h1
      have hr := hrd.grow hbl Hg0.out i t ht
      have a2 := hr 2 _ rfl
      have a3 := hr 3 _ rfl
      have lb : b < W1.heap.size := Nat.lt_of_lt_of_le hbl Hg0.out.size
      obtain ⟨f0, f1, f2, f3, f4⟩ := t
      dsimp only at a2 a3
      have hsn := keyN_snoc ht
      dsimp only at hsn
      have hle := keyN_take E.add (i + 1)
      have hi0 : (0 : Int) ≤ (i : Int) := by omega
      have hi1 : (i : Int) < (E.add.length : Int) := by omega
      have hw1 : IntKind.i64.wrap ((keyN (E.add.take i) : Int) + (f2.size : Int)) = ((keyN (E.add.take i) + f2.size : Nat) : Int) := by rw [IntWalk.i64_in _ (by omega)]; simp
      have hw2 : IntKind.i64.wrap (((keyN (E.add.take i) + f2.size : Nat) : Int) + (f3.size : Int)) = ((keyN (E.add.take (i + 1)) : Nat) : Int) := by rw [IntWalk.i64_in _ (by omega), hsn]; simp
      have Hg := Lib.hid hg
      generalize keyN (E.add.take i) = K0 at *
      generalize hK2 : keyN (E.add.take (i + 1)) = K2 at *
      have HK2 := Lib.hid hK2
      clear hr hrd ht hg hK2 hsn
      go_wp2_with fail
      refine wp_region_pi (fun W => Below W1.heap.size W1 W) [(0, false), (1, false), (2, false), (3, false), (4, false), (5, false), (6, false), (7, false), (8, false), (9, false), (10, false), (11, false), (12, false), (13, false), (14, false), (15, false), (16, false), (17, false)] (by kernel_rfl) (by kernel_rfl) (fun c a d v w h => by cases d <;> exact h) (Hg.out.trans (Grow.drew _)) ?_
      simp only [arrange, nth]
      repeat (first | (refine wpPi_quiet (v := ?_) (by rfl) (fun W hW => ?_) ?_; rotate_left; (obtain hW := hW; go_simp; with_reducible rfl); simp only [Act.put, List.setIfInBounds_toArray, List.set_cons_zero, List.set_cons_succ]) | (refine wpPi_off (by rfl) ?_; simp only [Act.put, List.setIfInBounds_toArray, List.set_cons_zero, List.set_cons_succ]))
      refine wpPi_nil ?_
      go_wp2
      go_roundw
      case rel => exact ⟨i + 1, by rw [HK2.out]; first | rfl | (simp_all; done), rfl, hlt, Hg.out.trans (Grow.drew _)⟩
      case measure => simp [intOf]; omega
    · obtain rfl : i = E.add.length := by omega
      rw [List.take_length]
      have lw : w.heap.size < wr.heap.size := Nat.lt_of_lt_of_le l1 hg.size
      by_cases h1 : E.add.length ≤ 20
      · have h1' : decide ((E.add.length : Int) ≤ 20) = true := by simp; omega
        by_cases h2 : E.drop.length ≤ 20
        · have h2' : decide ((E.drop.length : Int) ≤ 20) = true := by simp; omega
          go_wp2
          go_ret
          exact ⟨decide ((keyN E.add : Int) ≤ 10000), rfl, fun h => ⟨h1, h2, by have := of_decide_eq_true h; omega⟩, Hg0.out.trans hg⟩
        · have h2' : decide ((E.drop.length : Int) ≤ 20) = false := by simp; omega
          go_wp2
          go_ret
          exact ⟨false, rfl, (fun h => by cases h), Hg0.out.trans hg⟩
      · have h1' : decide ((E.add.length : Int) ≤ 20) = false := by simp; omega
        go_wp2
        go_ret
        exact ⟨false, rfl, (fun h => by cases h), Hg0.out.trans hg⟩
end Go.Proofs.YtejpcoghkgjanaaGreatDoor
