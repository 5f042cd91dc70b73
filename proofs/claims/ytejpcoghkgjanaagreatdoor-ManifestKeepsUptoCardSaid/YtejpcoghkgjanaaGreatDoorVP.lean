/- Merged out of K9: helpers. -/
import Derived.Test.YtejpcoghkgjanaaGreatDoorVO
import Derived.Deep.CutRange
import Derived.Deep.DeepCutAuto
/- manifest.Encode. -/
namespace Go.Proofs.YtejpcoghkgjanaaGreatDoor
open Go.RowKit Go.Gl Go.Wal Mn

/-- What region 6 of Encode lays: every value holds in every world that has grown. -/
def SEn (B tb : Nat) (bv : Value) (L : List UInt8) (n4 : Nat) (f2 f3 : ByteArray) (j : Nat) (v : Value) (W : World) : Prop :=
  match j with
  | 0 => v = bv
  | 1 => v = .pointer (some ⟨tb, 2, none⟩)
  | 2 => v = .string f2
  | 3 => Bv W v f2.data.toList
  | 4 => ∃ (q : Nat) (pv : Value), v = .slice (some ⟨q, 0, none⟩) 1 1 ∧ W.heap[q]? = some (.cells #[pv] 69 (0, 0)) ∧ Bv W pv f2.data.toList
  | 5 => OwnB B W v (L ++ bytesD f2.data.toList)
  | 6 => v = .pointer (some ⟨tb, 3, none⟩)
  | 7 => v = .string f3
  | 8 => Bv W v f3.data.toList
  | 9 => ∃ (q : Nat) (pv : Value), v = .slice (some ⟨q, 0, none⟩) 1 1 ∧ W.heap[q]? = some (.cells #[pv] 69 (0, 0)) ∧ Bv W pv f3.data.toList
  | 10 => OwnB B W v (L ++ bytesD f2.data.toList ++ bytesD f3.data.toList)
  | 11 => v = .pointer (some ⟨tb, 4, none⟩)
  | 12 => v = .int .i64 (n4 : Int)
  | 13 => v = .int .u64 (n4 : Int)
  | 14 => OwnB B W v (L ++ bytesD f2.data.toList ++ bytesD f3.data.toList ++ numD n4)
  | 15 => OwnB B W v (L ++ bytesD f2.data.toList ++ bytesD f3.data.toList ++ numD n4)
  | _ => True

theorem SEn.keep {B tb : Nat} {bv : Value} {L : List UInt8} {n4 : Nat} {f2 f3 : ByteArray} : ∀ (j : Nat) (v : Value) (W W' : World), Grow W W' → SEn B tb bv L n4 f2 f3 j v W → SEn B tb bv L n4 f2 f3 j v W' := by
  intro j v W W' hR h
  unfold SEn at h
  split at h <;> first
    | exact h
    | exact Bv.grow h hR
    | exact Row1.grow h hR
    | (obtain ⟨q, pv, h1, h2, h3⟩ := h; exact ⟨q, pv, h1, hR.heap h2, h3.grow hR⟩)
    | (unfold SEn; split <;> first | trivial | (exfalso; simp_all))

/-- While region 6 runs: the world grows; the slot that its last operation fills is still the old one. -/
def TEn (w5 : World) (bv : Value) (l : Array Bool) (a : Act) (W : World) : Prop := Grow w5 W ∧ (l.getD 15 false = false → a.tmps[3]? = some bv)
theorem TEn.next {w5 : World} {bv : Value} {l : Array Bool} {a : Act} {W W' : World} {i d : Nat} {v : Value} (h : TEn w5 bv l a W) (hi : i ≠ 15) (hd : d ≠ 3) (hg : Grow W W') : TEn w5 bv (l.setIfInBounds i true) (a.put (some d) v) W' :=
  ⟨h.1.trans hg, fun hl => tmp_ne hd (h.2 (by rw [getD_set_ne false hi] at hl; exact hl))⟩

theorem bytesD_len (x : List UInt8) : (bytesD x).length ≤ x.length + 10 := by
  have := numD_len x.length
  simp only [bytesD, List.length_append]; omega

def EncA (w : World) (l : List Tb) (pre : List UInt8) (bv iv : Value) (wr : World) : Prop :=
  ∃ i : Nat, iv = .int .i64 i ∧ i ≤ l.length ∧ OwnB w.heap.size wr bv (pre ++ (l.take i).flatMap tabB) ∧ Grow w wr
def EncB (w : World) (l : List Int) (pre : List UInt8) (bv iv : Value) (wr : World) : Prop :=
  ∃ i : Nat, iv = .int .i64 i ∧ i ≤ l.length ∧ OwnB w.heap.size wr bv (pre ++ (l.take i).flatMap dropB) ∧ Grow w wr

theorem flat_snoc {α : Type} {l : List α} {i : Nat} {x : α} (f : α → List UInt8) (h : l[i]? = some x) : (l.take (i + 1)).flatMap f = (l.take i).flatMap f ++ f x := by
  rw [take_snocT h, List.flatMap_append]; simp

theorem u64_nat {n : Nat} (h : n < 18446744073709551616) : IntKind.u64.wrap (n : Int) = (n : Int) := by simp [IntKind.wrap, IntKind.bits, IntKind.signed]; omega

set_option maxRecDepth 100000 in
set_option maxHeartbeats 8000000 in
theorem encode_any {w : World} {av dv : Value} {E : EdD} (hf : EdFit E) (hA : Tabs w av E.add) (hD : Ints w dv E.drop) (hk : keyN E.add ≤ 1000000000) :
    Calls Tryz.prog 26 #[.agg (edCells av dv E.seq E.next E.wal)] w fun e w' => ∃ v, e = .returned v ∧ OwnB w.heap.size w' v (encD E) ∧ Grow w w' := by
  obtain ⟨aa, ac, rfl, har⟩ := hA
  obtain ⟨da, dc, rfl, hdc, hdr⟩ := hD
  have hba := heap_alloc_new w (.cells (edCells (.slice aa E.add.length ac) (.slice da E.drop.length dc) E.seq E.next E.wal) 41)
  have hga : Grow w (w.alloc (.cells (edCells (.slice aa E.add.length ac) (.slice da E.drop.length dc) E.seq E.next E.wal) 41)) := Grow.alloc _ _
  have hal := hf.alen
  have hdl := hf.dlen
  have wu := u64_nat (n := E.add.length) (by omega)
  have hnum := number_any (w := w.alloc (.cells (edCells (.slice aa E.add.length ac) (.slice da E.drop.length dc) E.seq E.next E.wal) 41)) (bv := .slice none 0 0) (l := []) ⟨none, 0, rfl, Nat.le_refl _, Nat.zero_le _, fun _ => rfl, .inl rfl⟩ (by simp) (n := E.add.length) (by omega)
  obtain ⟨e0, e1, e2, e3, e4⟩ := cells5 hba
  have le := lt_of_getElem? hba
  have Hnum := Lib.hid hnum
  have Hba := Lib.hid hba
  have Hga := Lib.hid hga
  have Har := Lib.hid har
  have Hdr := Lib.hid hdr
  have Hf := Lib.hid hf
  clear hba hga har hdr hnum hf
  go_enter Tryz.func26, Tryz.ntmps26
  go_wp2_with fail
  generalize w.alloc (.cells (edCells (.slice aa E.add.length ac) (.slice da E.drop.length dc) E.seq E.next E.wal) 41) = w1 at *
  (with_reducible refine Hnum.out.mono ?_)
  rintro e w2 ⟨nv, rfl, ho2, hg2⟩
  have hb2 := hg2.heap Hba.out
  clear e0 e1 e2 e3 e4 le
  obtain ⟨e0, e1, e2, e3, e4⟩ := cells5 hb2
  have le2 := lt_of_getElem? hb2
  have Hst : Hid (EncA w1 E.add (numD E.add.length) nv (.int .i64 0) w2) := Lib.hid ⟨0, rfl, Nat.zero_le _, by simpa using ho2, hg2⟩
  obtain ⟨na, nc, rfl⟩ := ho2.slice
  clear ho2 hg2 hb2 Hnum
  go_wp2_with fail
  go_loopw [3, 16] (fun bv iv wr => EncA w1 E.add (numD E.add.length) bv iv wr) (fun _ iv _ => E.add.length - (intOf iv).toNat)
  case atStart => exact Hst.out
  case round =>
    obtain ⟨i, rfl, hi, hown, hg⟩ := hrel
    clear e0 e1 e2 e3 e4 le2
    have hbw := hg.heap Hba.out
    by_cases hlt : i < E.add.length
    · obtain ⟨t, ht⟩ : ∃ t, E.add[i]? = some t := ⟨E.add[i], by simp [hlt]⟩
      obtain ⟨b, o, rfl, hbl, hrd⟩ : ∃ b o, aa = some ⟨b, o, none⟩ ∧ b < w.heap.size ∧ Rd w b o encTb 5 E.add := by
        rcases Har.out with h1 | h1
        · rw [h1] at hlt; simp at hlt
        · exact h1
      have hgw := Hga.out.trans hg
      have hrd4 := hrd.grow hbl hgw i t ht
      have hft := Hf.out.adds t (List.mem_of_getElem? ht)
      have hsn := flat_snoc tabB ht
      have hkt := keyN_mem (List.mem_of_getElem? ht)
      have hpl : ((E.add.take i).flatMap tabB).length ≤ 50 * i + keyN E.add := by
        have h1 := tabsB_len (E.add.take i)
        have h2 := keyN_take E.add i
        rw [List.length_take] at h1
        omega
      obtain ⟨f0, f1, f2, f3, f4⟩ := t
      obtain ⟨n0, rfl⟩ : ∃ n : Nat, f0 = n := ⟨f0.toNat, (Int.toNat_of_nonneg hft.file.1).symm⟩
      obtain ⟨n1, rfl⟩ : ∃ n : Nat, f1 = n := ⟨f1.toNat, (Int.toNat_of_nonneg hft.level.1).symm⟩
      obtain ⟨n4, rfl⟩ : ∃ n : Nat, f4 = n := ⟨f4.toNat, (Int.toNat_of_nonneg hft.size.1).symm⟩
      have m0 : n0 ≤ 1099511627776 := by have := hft.file.2; exact Int.ofNat_le.1 this
      have m1 : n1 ≤ 1099511627776 := by have := hft.level.2; exact Int.ofNat_le.1 this
      have m4 : n4 ≤ 1099511627776 := by have := hft.size.2; exact Int.ofNat_le.1 this
      have m2 : f2.size ≤ 67108864 := hft.first
      have m3 : f3.size ≤ 67108864 := hft.last
      have m2' : f2.data.toList.length ≤ 67108864 := by rw [Array.length_toList]; exact m2
      have m3' : f3.data.toList.length ≤ 67108864 := by rw [Array.length_toList]; exact m3
      have k2 := bytesD_len f2.data.toList
      have k3 := bytesD_len f3.data.toList
      have hsn' : (E.add.take (i + 1)).flatMap tabB = (E.add.take i).flatMap tabB ++ (numD n0 ++ (numD n1 ++ (bytesD f2.data.toList ++ (bytesD f3.data.toList ++ numD n4)))) := hsn
      have Hsn := Lib.hid hsn'
      have a0 := hrd4 0 _ rfl
      have a1 := hrd4 1 _ rfl
      have a2 := hrd4 2 _ rfl
      have a3 := hrd4 3 _ rfl
      have a4 := hrd4 4 _ rfl
      simp only [Nat.add_zero] at a0
      dsimp only at a0 a1 a2 a3 a4
      have lb : b < wr.heap.size := Nat.lt_of_lt_of_le hbl hgw.size
      have hi1 : (i : Int) < (E.add.length : Int) := by omega
      have hi0 : (0 : Int) ≤ (i : Int) := by omega
      have hwi : IntKind.i64.wrap ((i : Int) + 1) = (i : Int) + 1 := IntWalk.i64_in _ (by omega)
      have wu0 := u64_nat (n := n0) (by omega)
      have wu1 := u64_nat (n := n1) (by omega)
      have wu4 := u64_nat (n := n4) (by omega)
      have htb : (wr.alloc (.cells #[.int .i64 (n0 : Int), .int .i64 (n1 : Int), .string f2, .string f3, .int .i64 (n4 : Int)] 51)).heap[wr.heap.size]? = some (.cells #[.int .i64 (n0 : Int), .int .i64 (n1 : Int), .string f2, .string f3, .int .i64 (n4 : Int)] 51 (0, 0)) := heap_alloc_new _ _
      have hgt : Grow wr (wr.alloc (.cells #[.int .i64 (n0 : Int), .int .i64 (n1 : Int), .string f2, .string f3, .int .i64 (n4 : Int)] 51)) := Grow.alloc _ _
      obtain ⟨PL, hPL⟩ : ∃ x, x = numD E.add.length ++ (E.add.take i).flatMap tabB := ⟨_, rfl⟩
      rw [← hPL] at hown
      have Hown := Lib.hid (hown.grow hgt)
      obtain ⟨ba, bc, rfl⟩ := hown.slice
      have hPll : PL.length ≤ 5000000000 := by rw [hPL]; have := numD_len E.add.length; simp only [List.length_append]; omega
      have HPL := Lib.hid hPL
      have HG := Lib.hid (hg.trans hgt)
      clear hown hg hgw hrd hrd4 hsn hsn' hkt hpl hft ht hPL hbw
      go_upto_region 5 with fail
      clear a0 a1 a2 a3 a4 lb hgt
      generalize wr.alloc (.cells #[.int .i64 (n0 : Int), .int .i64 (n1 : Int), .string f2, .string f3, .int .i64 (n4 : Int)] 51) = w3 at *
      generalize wr.heap.size = tb at *
      obtain ⟨t0, t1, t2, t3, t4⟩ := cells5 htb
      have lt3 := lt_of_getElem? htb
      have hcl := Grow.cells (w := w3)
      have Htb := Lib.hid htb
      clear htb
      refine wp_region_pi (fun W => Below w3.heap.size w3 W) [(0, false), (1, false), (2, false), (3, false), (5, false), (6, false), (7, false), (4, true), (8, true), (9, false)] (by kernel_rfl) (by kernel_rfl) (fun c a d v w h => by cases d <;> exact h) (Grow.drew _) ?_
      simp only [arrange, nth]
      repeat (first | (refine wpPi_quiet (v := ?_) (by rfl) (fun W hW => ?_) ?_; rotate_left; (obtain hW := hW; go_simp; with_reducible rfl); simp only [Act.put, List.setIfInBounds_toArray, List.set_cons_zero, List.set_cons_succ]) | (refine wpPi_off (by rfl) ?_; simp only [Act.put, List.setIfInBounds_toArray, List.set_cons_zero, List.set_cons_succ]))
      have hgd := Grow.drew w3
      refine wpPi_call (by rfl) (by go_simp) (number_any (ownB_bv (Hown.out.grow hgd)) (by omega) (n := n0) (by omega)) ?_
      rintro e w4 ⟨v4, rfl, ho4, hg4⟩
      refine ⟨_, rfl, hgd.trans hg4, ?_⟩
      try simp only [Act.put, List.setIfInBounds_toArray, List.set_cons_zero, List.set_cons_succ]
      refine wpPi_call (by rfl) (by go_simp) (number_any (ownB_bv ho4) (by have := numD_len n0; simp; omega) (n := n1) (by omega)) ?_
      rintro e w5 ⟨v5, rfl, ho5, hg5⟩
      have hg35 : Grow w3 w5 := (hgd.trans hg4).trans hg5
      refine ⟨_, rfl, hg35, ?_⟩
      try simp only [Act.put, List.setIfInBounds_toArray, List.set_cons_zero, List.set_cons_succ]
      obtain ⟨L5, hL5⟩ : ∃ x, x = PL ++ numD n0 ++ numD n1 := ⟨_, rfl⟩
      rw [← hL5] at ho5
      have hL5l : L5.length ≤ 6000000000 := by rw [hL5]; have := numD_len n0; have := numD_len n1; simp only [List.length_append]; omega
      have HL5 := Lib.hid hL5
      obtain ⟨va, vL, vc, rfl⟩ : ∃ a L c, v5 = .slice a L c := by obtain ⟨a, c, h⟩ := ho5.slice; exact ⟨_, _, _, h⟩
      repeat (first | (refine wpPi_quiet (v := ?_) (by rfl) (fun W hW => ?_) ?_; rotate_left; (obtain hW := hW; go_simp; with_reducible rfl); simp only [Act.put, List.setIfInBounds_toArray, List.set_cons_zero, List.set_cons_succ]) | (refine wpPi_off (by rfl) ?_; simp only [Act.put, List.setIfInBounds_toArray, List.set_cons_zero, List.set_cons_succ]))
      refine wpPi_nil ?_
      have htb5 := hg35.heap Htb.out
      have Ho5 := Lib.hid ho5
      have HG5 := Lib.hid (HG.out.trans hg35)
      clear ho4 hg4 hgd hL5 ho5 hg35 t0 t1 t2 t3 t4 lt3 hcl
      obtain ⟨t0, t1, t2, t3, t4⟩ := cells5 htb5
      have lt5 := lt_of_getElem? htb5
      have Htb5 := Lib.hid htb5
      clear htb5
      go_wp2_with fail
      refine wp_frame (fun a0 ha0 => ?_)
      have F3 : a0.tmps[3]? = some (.slice va vL vc) := by rw [ha0]; rfl
      have F5 : a0.tmps[5]? = some (.pointer (some ⟨tb, 0, none⟩)) := by rw [ha0]; rfl
      have hsz : a0.tmps.size = 75 := by rw [ha0]; rfl
      have Ha0 := Lib.hid ha0
      clear ha0
      refine wp_region_flow (SEn w5.heap.size tb (.slice va vL vc) L5 n4 f2 f3) (TEn w5 (.slice va vL vc)) Grow [3, 29, 30, 31, 32, 33, 34, 35, 36, 37, 38, 39, 40, 41, 42, 43] (by kernel_rfl) (by kernel_rfl) (by rw [hsz]; rfl) SEn.keep ⟨Grow.drew _, fun _ => F3⟩ ?_ (fun a1 W1 hf => ?_)
      rotate_left
      · obtain ⟨v, hv, hq⟩ := hf.slot 15 3 (by rfl) (by rfl)
        have hG : Grow w5 W1 := hf.world.1
        have hq' : OwnB w5.heap.size W1 v (L5 ++ bytesD f2.data.toList ++ bytesD f3.data.toList ++ numD n4) := hq
        have e := hf.alike.fill
        rw [Ha0.out] at e
        simp only [List.foldl_cons, List.foldl_nil, Act.put, List.setIfInBounds_toArray, List.set_cons_zero, List.set_cons_succ] at e
        have h3 : a1.tmps.getD 3 undef = v := by rw [Array.getD_eq_getD_getElem?, hv]; rfl
        obtain ⟨u29, h29⟩ : ∃ u, a1.tmps.getD 29 undef = u := ⟨_, rfl⟩
        obtain ⟨u30, h30⟩ : ∃ u, a1.tmps.getD 30 undef = u := ⟨_, rfl⟩
        obtain ⟨u31, h31⟩ : ∃ u, a1.tmps.getD 31 undef = u := ⟨_, rfl⟩
        obtain ⟨u32, h32⟩ : ∃ u, a1.tmps.getD 32 undef = u := ⟨_, rfl⟩
        obtain ⟨u33, h33⟩ : ∃ u, a1.tmps.getD 33 undef = u := ⟨_, rfl⟩
        obtain ⟨u34, h34⟩ : ∃ u, a1.tmps.getD 34 undef = u := ⟨_, rfl⟩
        obtain ⟨u35, h35⟩ : ∃ u, a1.tmps.getD 35 undef = u := ⟨_, rfl⟩
        obtain ⟨u36, h36⟩ : ∃ u, a1.tmps.getD 36 undef = u := ⟨_, rfl⟩
        obtain ⟨u37, h37⟩ : ∃ u, a1.tmps.getD 37 undef = u := ⟨_, rfl⟩
        obtain ⟨u38, h38⟩ : ∃ u, a1.tmps.getD 38 undef = u := ⟨_, rfl⟩
        obtain ⟨u39, h39⟩ : ∃ u, a1.tmps.getD 39 undef = u := ⟨_, rfl⟩
        obtain ⟨u40, h40⟩ : ∃ u, a1.tmps.getD 40 undef = u := ⟨_, rfl⟩
        obtain ⟨u41, h41⟩ : ∃ u, a1.tmps.getD 41 undef = u := ⟨_, rfl⟩
        obtain ⟨u42, h42⟩ : ∃ u, a1.tmps.getD 42 undef = u := ⟨_, rfl⟩
        obtain ⟨u43, h43⟩ : ∃ u, a1.tmps.getD 43 undef = u := ⟨_, rfl⟩
        rw [h3, h29, h30, h31, h32, h33, h34, h35, h36, h37, h38, h39, h40, h41, h42, h43] at e
        clear h3 hv hq hf h29 h30 h31 h32 h33 h34 h35 h36 h37 h38 h39 h40 h41 h42 h43
        rw [e]
        clear e Ha0 F3 F5 hsz
        obtain ⟨xa, xL, xc, rfl⟩ : ∃ a L c, v = .slice a L c := by obtain ⟨a, c, h⟩ := hq'.slice; exact ⟨_, _, _, h⟩
        have Hrel : Hid (EncA w1 E.add (numD E.add.length) (.slice xa xL xc) (.int .i64 ((i : Int) + 1)) W1) := Lib.hid ⟨i + 1, by simp, hlt, by
          have h1 := hq'.mono HG5.out.size
          rw [HL5.out, HPL.out] at h1
          rw [Hsn.out]
          simpa [List.append_assoc] using h1, HG5.out.trans hG⟩
        clear hq' hG t0 t1 t2 t3 t4 lt5
        go_wp2
        go_roundw
        case rel => exact Hrel.out
        case measure => simp [intOf]; omega
      refine ⟨?_, ?_, ?_, ?_, ?_, ?_, ?_, ?_, ?_, ?_, ?_, ?_, ?_, ?_, ?_, ?_, True.intro⟩
      · intro listed a W hf hun haf
        have hs1 : a.tmps.size = 75 := hf.alike.size.trans hsz
        have hT := hf.world
        have hG : Grow w5 W := hT.1
        have hn15 := not_yet hf.closed (n := 8) (e := 15) (i := 0) (by kernel_rfl) hun
        have G3 : a.tmps[3]'(by rw [hs1]; decide) = .slice va vL vc := tmp_get (hT.2 hn15) _
        refine wpOp_act rfl (by rfl) (fun K' hK' => ?_)
        go_simp
        exact hK' _ _ ⟨_, rfl, (fun _ _ => rfl), Grow.refl _, TEn.next hT (by decide) (by decide) (Grow.refl _)⟩
      · intro listed a W hf hun haf
        have hs1 : a.tmps.size = 75 := hf.alike.size.trans hsz
        have hT := hf.world
        have hG : Grow w5 W := hT.1
        have G5 : a.tmps[5]'(by rw [hs1]; decide) = .pointer (some ⟨tb, 0, none⟩) := tmp_get ((hf.alike.same 5 (by decide)).trans F5) _
        refine wpOp_act rfl (by rfl) (fun K' hK' => ?_)
        go_simp
        exact hK' _ _ ⟨_, rfl, (fun _ _ => rfl), Grow.refl _, TEn.next hT (by decide) (by decide) (Grow.refl _)⟩
      · intro listed a W hf hun haf
        have hs1 : a.tmps.size = 75 := hf.alike.size.trans hsz
        have hT := hf.world
        have hG : Grow w5 W := hT.1
        obtain ⟨v1, s1, q1⟩ := hf.slot 1 30 rfl (after_listed haf 1 (by kernel_rfl))
        have q1' : v1 = _ := q1
        subst q1'
        have G30 := tmp_get s1 (by rw [hs1]; decide)
        have hb := hG.heap Htb5.out
        obtain ⟨t0', t1', t2', t3', t4'⟩ := cells5 hb
        have lb := lt_of_getElem? hb
        refine wpOp_act rfl (by rfl) (fun K' hK' => ?_)
        go_simp
        exact hK' _ _ ⟨_, rfl, (fun _ _ => rfl), Grow.refl _, TEn.next hT (by decide) (by decide) (Grow.refl _)⟩
      · intro listed a W hf hun haf
        have hs1 : a.tmps.size = 75 := hf.alike.size.trans hsz
        have hT := hf.world
        have hG : Grow w5 W := hT.1
        obtain ⟨v2, s2, q2⟩ := hf.slot 2 31 rfl (after_listed haf 2 (by kernel_rfl))
        have q2' : v2 = _ := q2
        subst q2'
        have G31 := tmp_get s2 (by rw [hs1]; decide)
        obtain ⟨cap, W2, hconv, hbv, hg2⟩ := conv_bytes f2 (by omega) W
        refine wpOp_act rfl (by rfl) (fun K' hK' => ?_)
        go_simp
        exact hK' _ _ ⟨_, rfl, (fun _ _ => hbv), hg2, TEn.next hT (by decide) (by decide) hg2⟩
      · intro listed a W hf hun haf
        have hs1 : a.tmps.size = 75 := hf.alike.size.trans hsz
        have hT := hf.world
        have hG : Grow w5 W := hT.1
        obtain ⟨v3, s3, q3⟩ := hf.slot 3 32 rfl (after_listed haf 3 (by kernel_rfl))
        have G32 := tmp_get s3 (by rw [hs1]; decide)
        have hbq : Bv W v3 f2.data.toList := q3
        obtain ⟨xa, xc, rfl⟩ := hbq.slice
        have hg2 : Grow W (W.alloc (.cells #[.slice xa f2.data.toList.length xc] 69)) := Grow.alloc _ _
        refine wpOp_run rfl (by rfl) (execOp_buildSlice1 (v := .slice xa f2.data.toList.length xc) rfl Tryz.underlying83 Tryz.infoR rfl (by show a.tmps.getD 32 undef = _; rw [Array.getD_eq_getD_getElem?, s3]; rfl) rfl) ?_
        exact ⟨_, rfl, (fun _ _ => ⟨W.heap.size, _, rfl, heap_alloc_new _ _, hbq.grow hg2⟩), hg2, TEn.next hT (by decide) (by decide) hg2⟩
      · intro listed a W hf hun haf
        have hs1 : a.tmps.size = 75 := hf.alike.size.trans hsz
        have hT := hf.world
        have hG : Grow w5 W := hT.1
        obtain ⟨v0, s0, q0⟩ := hf.slot 0 29 rfl (after_listed haf 0 (by kernel_rfl))
        have q0' : v0 = _ := q0
        subst q0'
        have G29 := tmp_get s0 (by rw [hs1]; decide)
        obtain ⟨v4, s4, qb, pv, q4, hqb, hpv⟩ := hf.slot 4 33 rfl (after_listed haf 4 (by kernel_rfl))
        subst q4
        have G33 := tmp_get s4 (by rw [hs1]; decide)
        refine wpOp_call rfl (by rfl) (by go_simp) (bytes_any (ownB_bv (Ho5.out.grow hG)) (by omega) hqb hpv (by omega)) ?_
        rintro e W2 ⟨v, rfl, ho, hg2⟩
        exact ⟨_, rfl, _, rfl, (fun _ _ => ho.mono hG.size), hg2, TEn.next hT (by decide) (by decide) hg2⟩
      · intro listed a W hf hun haf
        have hs1 : a.tmps.size = 75 := hf.alike.size.trans hsz
        have hT := hf.world
        have hG : Grow w5 W := hT.1
        have G5 : a.tmps[5]'(by rw [hs1]; decide) = .pointer (some ⟨tb, 0, none⟩) := tmp_get ((hf.alike.same 5 (by decide)).trans F5) _
        refine wpOp_act rfl (by rfl) (fun K' hK' => ?_)
        go_simp
        exact hK' _ _ ⟨_, rfl, (fun _ _ => rfl), Grow.refl _, TEn.next hT (by decide) (by decide) (Grow.refl _)⟩
      · intro listed a W hf hun haf
        have hs1 : a.tmps.size = 75 := hf.alike.size.trans hsz
        have hT := hf.world
        have hG : Grow w5 W := hT.1
        obtain ⟨v6, s6, q6⟩ := hf.slot 6 35 rfl (after_listed haf 6 (by kernel_rfl))
        have q6' : v6 = _ := q6
        subst q6'
        have G35 := tmp_get s6 (by rw [hs1]; decide)
        have hb := hG.heap Htb5.out
        obtain ⟨t0', t1', t2', t3', t4'⟩ := cells5 hb
        have lb := lt_of_getElem? hb
        refine wpOp_act rfl (by rfl) (fun K' hK' => ?_)
        go_simp
        exact hK' _ _ ⟨_, rfl, (fun _ _ => rfl), Grow.refl _, TEn.next hT (by decide) (by decide) (Grow.refl _)⟩
      · intro listed a W hf hun haf
        have hs1 : a.tmps.size = 75 := hf.alike.size.trans hsz
        have hT := hf.world
        have hG : Grow w5 W := hT.1
        obtain ⟨v7, s7, q7⟩ := hf.slot 7 36 rfl (after_listed haf 7 (by kernel_rfl))
        have q7' : v7 = _ := q7
        subst q7'
        have G36 := tmp_get s7 (by rw [hs1]; decide)
        obtain ⟨cap, W2, hconv, hbv, hg2⟩ := conv_bytes f3 (by omega) W
        refine wpOp_act rfl (by rfl) (fun K' hK' => ?_)
        go_simp
        exact hK' _ _ ⟨_, rfl, (fun _ _ => hbv), hg2, TEn.next hT (by decide) (by decide) hg2⟩
      · intro listed a W hf hun haf
        have hs1 : a.tmps.size = 75 := hf.alike.size.trans hsz
        have hT := hf.world
        have hG : Grow w5 W := hT.1
        obtain ⟨v8, s8, q8⟩ := hf.slot 8 37 rfl (after_listed haf 8 (by kernel_rfl))
        have G37 := tmp_get s8 (by rw [hs1]; decide)
        have hbq : Bv W v8 f3.data.toList := q8
        obtain ⟨xa, xc, rfl⟩ := hbq.slice
        have hg2 : Grow W (W.alloc (.cells #[.slice xa f3.data.toList.length xc] 69)) := Grow.alloc _ _
        refine wpOp_run rfl (by rfl) (execOp_buildSlice1 (v := .slice xa f3.data.toList.length xc) rfl Tryz.underlying83 Tryz.infoR rfl (by show a.tmps.getD 37 undef = _; rw [Array.getD_eq_getD_getElem?, s8]; rfl) rfl) ?_
        exact ⟨_, rfl, (fun _ _ => ⟨W.heap.size, _, rfl, heap_alloc_new _ _, hbq.grow hg2⟩), hg2, TEn.next hT (by decide) (by decide) hg2⟩
      · intro listed a W hf hun haf
        have hs1 : a.tmps.size = 75 := hf.alike.size.trans hsz
        have hT := hf.world
        have hG : Grow w5 W := hT.1
        obtain ⟨v5, s5, q5⟩ := hf.slot 5 34 rfl (after_listed haf 5 (by kernel_rfl))
        have G34 := tmp_get s5 (by rw [hs1]; decide)
        have ho5' : OwnB w5.heap.size W v5 (L5 ++ bytesD f2.data.toList) := q5
        obtain ⟨v9, s9, qb, pv, q9, hqb, hpv⟩ := hf.slot 9 38 rfl (after_listed haf 9 (by kernel_rfl))
        subst q9
        have G38 := tmp_get s9 (by rw [hs1]; decide)
        refine wpOp_call rfl (by rfl) (by go_simp) (bytes_any (ownB_bv ho5') (by rw [List.length_append]; omega) hqb hpv (by omega)) ?_
        rintro e W2 ⟨v, rfl, ho, hg2⟩
        exact ⟨_, rfl, _, rfl, (fun _ _ => ho.mono hG.size), hg2, TEn.next hT (by decide) (by decide) hg2⟩
      · intro listed a W hf hun haf
        have hs1 : a.tmps.size = 75 := hf.alike.size.trans hsz
        have hT := hf.world
        have hG : Grow w5 W := hT.1
        have G5 : a.tmps[5]'(by rw [hs1]; decide) = .pointer (some ⟨tb, 0, none⟩) := tmp_get ((hf.alike.same 5 (by decide)).trans F5) _
        refine wpOp_act rfl (by rfl) (fun K' hK' => ?_)
        go_simp
        exact hK' _ _ ⟨_, rfl, (fun _ _ => rfl), Grow.refl _, TEn.next hT (by decide) (by decide) (Grow.refl _)⟩
      · intro listed a W hf hun haf
        have hs1 : a.tmps.size = 75 := hf.alike.size.trans hsz
        have hT := hf.world
        have hG : Grow w5 W := hT.1
        obtain ⟨v11, s11, q11⟩ := hf.slot 11 40 rfl (after_listed haf 11 (by kernel_rfl))
        have q11' : v11 = _ := q11
        subst q11'
        have G40 := tmp_get s11 (by rw [hs1]; decide)
        have hb := hG.heap Htb5.out
        obtain ⟨t0', t1', t2', t3', t4'⟩ := cells5 hb
        have lb := lt_of_getElem? hb
        refine wpOp_act rfl (by rfl) (fun K' hK' => ?_)
        go_simp
        exact hK' _ _ ⟨_, rfl, (fun _ _ => rfl), Grow.refl _, TEn.next hT (by decide) (by decide) (Grow.refl _)⟩
      · intro listed a W hf hun haf
        have hs1 : a.tmps.size = 75 := hf.alike.size.trans hsz
        have hT := hf.world
        have hG : Grow w5 W := hT.1
        obtain ⟨v12, s12, q12⟩ := hf.slot 12 41 rfl (after_listed haf 12 (by kernel_rfl))
        have q12' : v12 = _ := q12
        subst q12'
        have G41 := tmp_get s12 (by rw [hs1]; decide)
        refine wpOp_act rfl (by rfl) (fun K' hK' => ?_)
        go_simp
        exact hK' _ _ ⟨_, rfl, (fun _ _ => rfl), Grow.refl _, TEn.next hT (by decide) (by decide) (Grow.refl _)⟩
      · intro listed a W hf hun haf
        have hs1 : a.tmps.size = 75 := hf.alike.size.trans hsz
        have hT := hf.world
        have hG : Grow w5 W := hT.1
        obtain ⟨v10, s10, q10⟩ := hf.slot 10 39 rfl (after_listed haf 10 (by kernel_rfl))
        have G39 := tmp_get s10 (by rw [hs1]; decide)
        obtain ⟨v13, s13, q13⟩ := hf.slot 13 42 rfl (after_listed haf 13 (by kernel_rfl))
        have q13' : v13 = _ := q13
        subst q13'
        have G42 := tmp_get s13 (by rw [hs1]; decide)
        have ho10 : OwnB w5.heap.size W v10 (L5 ++ bytesD f2.data.toList ++ bytesD f3.data.toList) := q10
        refine wpOp_call rfl (by rfl) (by go_simp) (number_any (ownB_bv ho10) (by rw [List.length_append, List.length_append]; omega) (n := n4) (by omega)) ?_
        rintro e W2 ⟨v, rfl, ho, hg2⟩
        exact ⟨_, rfl, _, rfl, (fun _ _ => ho.mono hG.size), hg2, TEn.next hT (by decide) (by decide) hg2⟩
      · intro listed a W hf hun haf
        have hs1 : a.tmps.size = 75 := hf.alike.size.trans hsz
        have hT := hf.world
        have hG : Grow w5 W := hT.1
        obtain ⟨v14, s14, q14⟩ := hf.slot 14 43 rfl (after_listed haf 14 (by kernel_rfl))
        have G43 := tmp_get s14 (by rw [hs1]; decide)
        have hsi : listed.size = 16 := hf.size
        refine wpOp_act rfl (by rfl) (fun K' hK' => ?_)
        go_simp
        exact hK' _ _ ⟨_, rfl, (fun _ _ => q14), Grow.refl _, ⟨hG, fun h => by rw [listed_same (by rw [hsi]; decide)] at h; cases h⟩⟩
    · obtain rfl : i = E.add.length := by omega
      have hown' := hown
      rw [List.take_length] at hown'
      obtain ⟨P1, hP1⟩ : ∃ x, x = numD E.add.length ++ E.add.flatMap tabB := ⟨_, rfl⟩
      rw [← hP1] at hown'
      have hP1l : P1.length ≤ 5000000000 := by
        rw [hP1]
        have h1 := tabsB_len E.add
        have h2 := numD_len E.add.length
        simp only [List.length_append]; omega
      have HP1 := Lib.hid hP1
      have hn1 : ¬ ((E.add.length : Int) < (E.add.length : Int)) := by omega
      obtain ⟨e0, e1, e2, e3, e4⟩ := cells5 hbw
      have le2 := lt_of_getElem? hbw
      have wud := u64_nat (n := E.drop.length) (by omega)
      have Hnum := Lib.hid (number_any (ownB_bv hown') (by omega) (n := E.drop.length) (by omega))
      obtain ⟨ba, bc, hbv⟩ := hown'.slice
      subst hbv
      have HG := Lib.hid hg
      clear hown hown' hP1 hg hbw
      go_wp2_with fail
      (with_reducible refine Hnum.out.mono ?_)
      rintro e w3 ⟨nv3, rfl, ho3, hg3⟩
      have hg13 := HG.out.trans hg3
      have hb3 := hg13.heap Hba.out
      clear e0 e1 e2 e3 e4 le2
      obtain ⟨e0, e1, e2, e3, e4⟩ := cells5 hb3
      have le3 := lt_of_getElem? hb3
      have ho3' := ho3.mono HG.out.size
      obtain ⟨P2, hP2⟩ : ∃ x, x = P1 ++ numD E.drop.length := ⟨_, rfl⟩
      rw [← hP2] at ho3'
      have hP2l : P2.length ≤ 6000000000 := by rw [hP2]; have := numD_len E.drop.length; simp only [List.length_append]; omega
      have HP2 := Lib.hid hP2
      have Hst2 : Hid (EncB w1 E.drop P2 nv3 (.int .i64 0) w3) := Lib.hid ⟨0, rfl, Nat.zero_le _, by simpa using ho3', hg13⟩
      obtain ⟨na3, nL3, nc3, rfl⟩ : ∃ a L c, nv3 = .slice a L c := by obtain ⟨a, c, h⟩ := ho3'.slice; exact ⟨_, _, _, h⟩
      clear ho3 ho3' hP2 hg3 hg13 hb3 Hnum
      go_wp2_with fail
      go_loopw [3, 54] (fun bv iv wr => EncB w1 E.drop P2 bv iv wr) (fun _ iv _ => E.drop.length - (intOf iv).toNat)
      case atStart => exact Hst2.out
      case round =>
        obtain ⟨j, rfl, hj, hown, hg⟩ := hrel
        clear e0 e1 e2 e3 e4 le3
        have hbw := hg.heap Hba.out
        have hjl : ((E.drop.take j).flatMap dropB).length ≤ 10 * j := by
          have h1 := dropsB_len (E.drop.take j)
          rw [List.length_take] at h1
          omega
        by_cases hlt2 : j < E.drop.length
        · obtain ⟨k, hk⟩ : ∃ k, E.drop[j]? = some k := ⟨E.drop[j], by simp [hlt2]⟩
          obtain ⟨b, o, rfl, hbl, hrd⟩ : ∃ b o, da = some ⟨b, o, none⟩ ∧ b < w.heap.size ∧ ∀ (j : Nat) (k : Int), E.drop[j]? = some k → w.cell? ⟨b, o + j, none⟩ = some (.int .i64 k) := by
            rcases Hdr.out with h1 | h1
            · rw [h1] at hlt2; simp at hlt2
            · exact h1
          have hgw := Hga.out.trans hg
          have a0 := hrd j k hk
          rw [← Grow.cells _ _ _ hgw hbl] at a0
          have lb := Nat.lt_of_lt_of_le hbl hgw.size
          have hN := Hf.out.drops k (List.mem_of_getElem? hk)
          obtain ⟨n, rfl⟩ : ∃ n : Nat, k = n := ⟨k.toNat, (Int.toNat_of_nonneg hN.1).symm⟩
          have mn : n ≤ 1099511627776 := by have := hN.2; exact Int.ofNat_le.1 this
          have hsn : (E.drop.take (j + 1)).flatMap dropB = (E.drop.take j).flatMap dropB ++ numD n := flat_snoc dropB hk
          have Hsn := Lib.hid hsn
          have hj1 : (j : Int) < (E.drop.length : Int) := by omega
          have hj0 : (0 : Int) ≤ (j : Int) := by omega
          have hwj : IntKind.i64.wrap ((j : Int) + 1) = (j : Int) + 1 := IntWalk.i64_in _ (by omega)
          have wun := u64_nat (n := n) (by omega)
          obtain ⟨PJ, hPJ⟩ : ∃ x, x = P2 ++ (E.drop.take j).flatMap dropB := ⟨_, rfl⟩
          rw [← hPJ] at hown
          have hPJl : PJ.length ≤ 7000000000 := by rw [hPJ]; simp only [List.length_append]; omega
          have HPJ := Lib.hid hPJ
          have Hnum := Lib.hid (number_any (ownB_bv hown) (by omega) (n := n) (by omega))
          obtain ⟨va, vc, hbv⟩ := hown.slice
          subst hbv
          have HG2 := Lib.hid hg
          clear hown hg hgw hrd hk hsn hN hbw hjl hPJ
          go_wp2_with fail
          (with_reducible refine Hnum.out.mono ?_)
          rintro e w4 ⟨v4, rfl, ho4, hg4⟩
          have Hrel : Hid (EncB w1 E.drop P2 v4 (.int .i64 ((j : Int) + 1)) w4) := Lib.hid ⟨j + 1, by simp, hlt2, by rw [Hsn.out, ← List.append_assoc, ← HPJ.out]; exact ho4.mono HG2.out.size, HG2.out.trans hg4⟩
          obtain ⟨xa, xL, xc, rfl⟩ : ∃ a L c, v4 = .slice a L c := by obtain ⟨a, c, h⟩ := ho4.slice; exact ⟨_, _, _, h⟩
          clear ho4 hg4 a0 lb
          go_wp2
          go_roundw
          case rel => exact Hrel.out
          case measure => simp [intOf]; omega
        · obtain rfl : j = E.drop.length := by omega
          rw [List.take_length] at hown hjl
          obtain ⟨P3, hP3⟩ : ∃ x, x = P2 ++ E.drop.flatMap dropB := ⟨_, rfl⟩
          rw [← hP3] at hown
          have hP3l : P3.length ≤ 7000000000 := by rw [hP3]; simp only [List.length_append]; omega
          have HP3 := Lib.hid hP3
          have hn2 : ¬ ((E.drop.length : Int) < (E.drop.length : Int)) := by omega
          obtain ⟨sq, hsq⟩ : ∃ n : Nat, E.seq = n := ⟨E.seq.toNat, (Int.toNat_of_nonneg Hf.out.seq.1).symm⟩
          obtain ⟨nx, hnx⟩ : ∃ n : Nat, E.next = n := ⟨E.next.toNat, (Int.toNat_of_nonneg Hf.out.next.1).symm⟩
          obtain ⟨wl, hwl⟩ : ∃ n : Nat, E.wal = n := ⟨E.wal.toNat, (Int.toNat_of_nonneg Hf.out.wal.1).symm⟩
          have q1 : sq < 18446744073709551616 := by have := Hf.out.seq.2; rw [hsq] at this; omega
          have q2 : nx ≤ 1099511627776 := by have := Hf.out.next.2; rw [hnx] at this; omega
          have q3 : wl ≤ 1099511627776 := by have := Hf.out.wal.2; rw [hwl] at this; omega
          have wu2 := u64_nat (n := nx) (by omega)
          have wu3 := u64_nat (n := wl) (by omega)
          have Henc : Hid (encD E = P3 ++ numD sq ++ numD nx ++ numD wl) := Lib.hid (by
            rw [HP3.out, HP2.out, HP1.out]
            unfold encD
            rw [hsq, hnx, hwl]
            simp [List.append_assoc])
          rw [hsq, hnx, hwl] at hbw
          obtain ⟨e0, e1, e2, e3, e4⟩ := cells5 hbw
          have leb := lt_of_getElem? hbw
          have Hown := Lib.hid hown
          obtain ⟨va, vc, hbv⟩ := hown.slice
          subst hbv
          have HG2 := Lib.hid hg
          have Hsw := Lib.hid (And.intro hsq (And.intro hnx hwl))
          clear hown hg hP3 hjl hbw hsq hnx hwl
          go_upto_region 14 with fail
          have hcl := Grow.cells (w := wr)
          refine wp_region_pi (fun W => Below wr.heap.size wr W) [(0, false), (1, false), (2, false), (4, false), (5, false), (6, false), (8, false), (9, false), (10, false), (3, true), (7, true), (11, true), (12, false)] (by kernel_rfl) (by kernel_rfl) (fun c a d v w h => by cases d <;> exact h) (Grow.drew _) ?_
          simp only [arrange, nth]
          repeat (first | (refine wpPi_quiet (v := ?_) (by rfl) (fun W hW => ?_) ?_; rotate_left; (obtain hW := hW; go_simp; with_reducible rfl); simp only [Act.put, List.setIfInBounds_toArray, List.set_cons_zero, List.set_cons_succ]) | (refine wpPi_off (by rfl) ?_; simp only [Act.put, List.setIfInBounds_toArray, List.set_cons_zero, List.set_cons_succ]))
          have hgd := Grow.drew wr
          refine wpPi_call (by rfl) (by go_simp) (number_any (ownB_bv (Hown.out.grow hgd)) (by omega) (n := sq) q1) ?_
          rintro e w4 ⟨v4, rfl, ho4, hg4⟩
          refine ⟨_, rfl, hgd.trans hg4, ?_⟩
          try simp only [Act.put, List.setIfInBounds_toArray, List.set_cons_zero, List.set_cons_succ]
          refine wpPi_call (by rfl) (by go_simp) (number_any (ownB_bv ho4) (by have := numD_len sq; simp only [List.length_append]; omega) (n := nx) (by omega)) ?_
          rintro e w5 ⟨v5, rfl, ho5, hg5⟩
          refine ⟨_, rfl, (hgd.trans hg4).trans hg5, ?_⟩
          try simp only [Act.put, List.setIfInBounds_toArray, List.set_cons_zero, List.set_cons_succ]
          refine wpPi_call (by rfl) (by go_simp) (number_any (ownB_bv ho5) (by have := numD_len sq; have := numD_len nx; simp only [List.length_append]; omega) (n := wl) (by omega)) ?_
          rintro e w6 ⟨v6, rfl, ho6, hg6⟩
          have hg36 := ((hgd.trans hg4).trans hg5).trans hg6
          refine ⟨_, rfl, hg36, ?_⟩
          try simp only [Act.put, List.setIfInBounds_toArray, List.set_cons_zero, List.set_cons_succ]
          obtain ⟨xa, xL, xc, rfl⟩ : ∃ a L c, v6 = .slice a L c := by obtain ⟨a, c, h⟩ := ho6.slice; exact ⟨_, _, _, h⟩
          repeat (first | (refine wpPi_quiet (v := ?_) (by rfl) (fun W hW => ?_) ?_; rotate_left; (obtain hW := hW; go_simp; with_reducible rfl); simp only [Act.put, List.setIfInBounds_toArray, List.set_cons_zero, List.set_cons_succ]) | (refine wpPi_off (by rfl) ?_; simp only [Act.put, List.setIfInBounds_toArray, List.set_cons_zero, List.set_cons_succ]))
          refine wpPi_nil ?_
          have Hfin : Hid (OwnB w.heap.size w6 (.slice xa xL xc) (encD E) ∧ Grow w w6) := Lib.hid ⟨by
            rw [Henc.out]
            exact ho6.mono (Nat.le_trans (Nat.le_trans (Nat.le_trans (Nat.le_trans Hga.out.size HG2.out.size) hgd.size) hg4.size) hg5.size), (Hga.out.trans HG2.out).trans hg36⟩
          clear ho4 ho5 ho6 hg4 hg5 hg6 hg36 hgd hcl
          go_wp2
          go_ret
          exact ⟨_, rfl, Hfin.out⟩
end Go.Proofs.YtejpcoghkgjanaaGreatDoor
