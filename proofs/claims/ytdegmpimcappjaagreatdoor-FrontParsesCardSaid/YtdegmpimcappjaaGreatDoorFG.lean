/- Merged out of Z7, Z71, Z8, Z9, ZA, ZA1, ZB, ZC, ZD: helpers. -/
import Derived.Test.YtdegmpimcappjaaGreatDoorFF
import Derived.WalkSpells
/- The program's reader of a head. -/
namespace Go.Gl
open Go Go.RowKit
section pie
variable {P : Program} {ops : Array Oper} {Q : Exit → Act → World → Prop} {S : World → Prop}
/-- A call by its contract, that may end in a panic. -/
theorem wpPi_callE {rest : List (Oper × Bool)} {a : Act} {w : World} {o : Oper} {f : FuncId} {args : Array Value} {R : Ending → World → Prop} (hw : Region.wanted o (yielded ops a.tmps) = true)
    (hr : (execOp a.eval o).run P w = .ok (.enter f args) w) (hc : Calls P f args w R)
    (h : ∀ e w', R e w' → (∃ v, e = .returned v ∧ S w' ∧ wpPi P ops Q S rest (a.put o.dst v) w') ∨ (∃ c, e = .panicked c ∧ Q (.panic c) a w')) : wpPi P ops Q S ((o, true) :: rest) a w :=
  wpPi_act hw fun K hK => by
    unfold Oper.wp
    rw [hr]
    refine hc.mono fun e w' he => ?_
    rcases h e w' he with ⟨v, rfl, hS, h'⟩ | ⟨c, rfl, h'⟩
    · exact hK _ _ ⟨hS, h'⟩
    · exact h'
end pie
end Go.Gl
namespace Go.Proofs.YtdegmpimcappjaaGreatDoor
open Go.RowKit Go.Gl Go.Front

theorem GX.block {g : Nat} {w w' : World} (h : GX g w w') {b : Nat} {o : Obj} (hb : w.heap[b]? = some o) (hn : b ≠ g) : w'.heap[b]? = some o := by
  obtain ⟨_, _, _, _, hgb⟩ := h
  exact (hgb b (lt_of_getElem? hb) (fun e => by cases e; exact hn rfl)).trans hb

/-- What the reader of a head leaves. -/
def HdPost (g : Nat) (r : Option (OpD × List UInt8)) (w : World) (e : Ending) (w' : World) : Prop := match r with
  | some (o, len) => e = .returned (.string ⟨len.toArray⟩) ∧ (∃ pv, w'.heap[g]? = some (.cells (opCells o pv) 73) ∧ Pv w' pv o.parts) ∧ GX g w w'
  | none => e = badE ∧ GX g w w'

theorem prefix_any (s p : List UInt8) (w : World) : Calls Tryz.prog 82 #[.string ⟨s.toArray⟩, .string ⟨p.toArray⟩] w fun e w' => e = .returned (.tuple #[.string ⟨(Lib.trimPrefix s p).toArray⟩, .bool (Lib.hasPrefix s p)]) ∧ w' = w :=
  Tryz.strings_CutPrefix ⟨s.toArray⟩ ⟨p.toArray⟩ w

theorem trim_drop {s p : List UInt8} (h : Lib.hasPrefix s p = true) : Lib.trimPrefix s p = s.drop p.length := by
  unfold Lib.trimPrefix
  rw [h]
  rfl

/-- Behind the target: the two lines. -/
def linesP (o : OpD) (l1 l2 : List UInt8) : Option (OpD × List UInt8) :=
  match cutP l1 (([105, 100, 58, 32] : List UInt8)), cutP l2 (([108, 101, 110, 103, 116, 104, 58, 32] : List UInt8)) with
  | some id, some size => (unhex id).map fun u => ({ o with id := u }, size)
  | _, _ => none

theorem headP_not {s : List UInt8} (h : (Lib.split s [13, 10]).length ≠ 3) : headP s = none := by
  unfold headP
  split
  · rename_i l0 l1 l2 he
    rw [he] at h
    exact absurd rfl h
  · rfl

theorem headP_not2 {s l0 l1 l2 : List UInt8} (hs : Lib.split s [13, 10] = [l0, l1, l2]) (h : (Lib.split l0 [32]).length ≠ 3) : headP s = none := by
  unfold headP
  rw [hs]
  simp only
  split
  · rename_i a b c he
    rw [he] at h
    exact absurd rfl h
  · rfl

theorem headP_all {s l0 l1 l2 w0 w1 w2 : List UInt8} (hs : Lib.split s [13, 10] = [l0, l1, l2]) (h : Lib.split l0 [32] = [w0, w1, w2]) :
    headP s = if w2 = ([71, 76, 67, 47, 49] : List UInt8) then (targetP w0 w1).bind (fun o => linesP o l1 l2) else none := by
  unfold headP
  rw [hs]
  simp only
  rw [h]
  simp only
  split
  · unfold linesP
    cases targetP w0 w1 <;> cases cutP l1 [105, 100, 58, 32] <;> cases cutP l2 [108, 101, 110, 103, 116, 104, 58, 32] <;> rfl
  · rfl

theorem three {l : List (List UInt8)} : (∃ a b c, l = [a, b, c]) ∨ l.length ≠ 3 := by
  match l with
  | [] => exact .inr (by simp)
  | [_] => exact .inr (by simp)
  | [_, _] => exact .inr (by simp)
  | [a, b, c] => exact .inl ⟨a, b, c, rfl⟩
  | _ :: _ :: _ :: _ :: _ => exact .inr (by simp)
end Go.Proofs.YtdegmpimcappjaaGreatDoor

/- The program's reader of a head: the walk. -/
namespace Go.Proofs.YtdegmpimcappjaaGreatDoor
open Go.RowKit Go.Gl Go.Front

theorem set_size (W : World) (a : Addr) (v : Value) : (W.setCell a v).heap.size = W.heap.size := by simp

set_option maxRecDepth 100000 in
set_option maxHeartbeats 4000000 in
theorem qhead_any {w : World} {g : Nat} {s : List UInt8} (hb : Base w) (hg8 : 8 ≤ g) (hP : w.heap[g]? = some (.cells (opCells opZero (.slice none 0 0)) 73)) (hs : s.length ≤ 100000) :
    Calls Tryz.prog 46 #[.pointer (some ⟨g, 0, none⟩), .string ⟨s.toArray⟩] w (HdPost g (headP s) w) := by
  have hlw : g < w.heap.size := lt_of_getElem? hP
  have HM := must_ok
  have HB := must_bad
  have hS := split_any s [13, 10] hb (by omega) (by simp)
  obtain ⟨L, HL⟩ : ∃ L, Hid (L = Lib.split s [13, 10]) := ⟨_, Lib.hid rfl⟩
  rw [← HL.out] at hS
  have HP := Lib.hid hP
  have Hb := Lib.hid hb
  clear hP hb
  rcases three (l := L) with ⟨l0, l1, l2, rfl⟩ | hn
  · have hS' : Calls Tryz.prog 80 #[.string ⟨s.toArray⟩, .string ⟨#[13, 10]⟩] w fun e w' => e = .returned (.slice (some ⟨w.heap.size, 0, none⟩) 3 3) ∧ w' = w.alloc (.cells #[.string ⟨l0.toArray⟩, .string ⟨l1.toArray⟩, .string ⟨l2.toArray⟩] 9) := hS
    have HS := Lib.hid hS'
    clear hS hS'
    have hl0 : l0.length ≤ 100000 := Nat.le_trans (split_mem (s := s) (sep := [13, 10]) (by rw [← HL.out]; simp)) hs
    have hl1 : l1.length ≤ 100000 := Nat.le_trans (split_mem (s := s) (sep := [13, 10]) (by rw [← HL.out]; simp)) hs
    have hl2 : l2.length ≤ 100000 := Nat.le_trans (split_mem (s := s) (sep := [13, 10]) (by rw [← HL.out]; simp)) hs
    go_enter Tryz.func46, Tryz.ntmps46
    go_wp2_with fail
    (with_reducible refine HS.out.mono ?_)
    rintro e x1 ⟨rfl, rfl⟩
    have hB1 := heap_alloc_new w (.cells #[.string ⟨l0.toArray⟩, .string ⟨l1.toArray⟩, .string ⟨l2.toArray⟩] 9)
    have hg1 := Grow.alloc w (.cells #[.string ⟨l0.toArray⟩, .string ⟨l1.toArray⟩, .string ⟨l2.toArray⟩] 9)
    generalize w.alloc (.cells #[.string ⟨l0.toArray⟩, .string ⟨l1.toArray⟩, .string ⟨l2.toArray⟩] 9) = W1 at *
    obtain ⟨b1, Hb1⟩ : ∃ b, Hid (b = w.heap.size) := ⟨_, Lib.hid rfl⟩
    rw [← Hb1.out] at hB1
    rw [← Hb1.out]
    have hgb1 : b1 ≠ g := by have := Hb1.out; omega
    go_wp2_with fail
    (with_reducible refine (HM _).mono ?_)
    rintro e x2 ⟨rfl, hw⟩
    have hw' := hw.symm
    subst hw'
    clear hw
    have c0 : W1.cell? ⟨b1, 0, none⟩ = some (.string ⟨l0.toArray⟩) := ck_cell hB1 rfl
    have hS2 := split_any l0 [32] (Hb.out.grow hg1) (by omega) (by simp)
    obtain ⟨L2, HL2⟩ : ∃ L, Hid (L = Lib.split l0 [32]) := ⟨_, Lib.hid rfl⟩
    rw [← HL2.out] at hS2
    rcases three (l := L2) with ⟨w0, w1, w2, rfl⟩ | hn
    · have hS' : Calls Tryz.prog 80 #[.string ⟨l0.toArray⟩, .string ⟨#[32]⟩] W1 fun e w' => e = .returned (.slice (some ⟨W1.heap.size, 0, none⟩) 3 3) ∧ w' = W1.alloc (.cells #[.string ⟨w0.toArray⟩, .string ⟨w1.toArray⟩, .string ⟨w2.toArray⟩] 9) := hS2
      have HS2 := Lib.hid hS'
      clear hS2 hS'
      have hw0 : w0.length ≤ 100000 := Nat.le_trans (split_mem (s := l0) (sep := [32]) (by rw [← HL2.out]; simp)) hl0
      have hw1 : w1.length ≤ 100000 := Nat.le_trans (split_mem (s := l0) (sep := [32]) (by rw [← HL2.out]; simp)) hl0
      have HH : Hid (headP s = if w2 = ([71, 76, 67, 47, 49] : List UInt8) then (targetP w0 w1).bind (fun o => linesP o l1 l2) else none) := Lib.hid (headP_all HL.out.symm HL2.out.symm)
      go_wp2_with fail
      (with_reducible refine HS2.out.mono ?_)
      rintro e x3 ⟨rfl, rfl⟩
      have hB2 := heap_alloc_new W1 (.cells #[.string ⟨w0.toArray⟩, .string ⟨w1.toArray⟩, .string ⟨w2.toArray⟩] 9)
      have hg2 := Grow.alloc W1 (.cells #[.string ⟨w0.toArray⟩, .string ⟨w1.toArray⟩, .string ⟨w2.toArray⟩] 9)
      generalize W1.alloc (.cells #[.string ⟨w0.toArray⟩, .string ⟨w1.toArray⟩, .string ⟨w2.toArray⟩] 9) = W2 at *
      obtain ⟨b2, Hb2⟩ : ∃ b, Hid (b = W1.heap.size) := ⟨_, Lib.hid rfl⟩
      rw [← Hb2.out] at hB2
      rw [← Hb2.out]
      have hgw : Grow w W2 := hg1.trans hg2
      have hB1' : W2.heap[b1]? = some (.cells #[.string ⟨l0.toArray⟩, .string ⟨l1.toArray⟩, .string ⟨l2.toArray⟩] 9) := (hg2.block b1 (lt_of_getElem? hB1)).trans hB1
      have d0 : W2.cell? ⟨b2, 0, none⟩ = some (.string ⟨w0.toArray⟩) := ck_cell hB2 rfl
      have d1 : W2.cell? ⟨b2, 1, none⟩ = some (.string ⟨w1.toArray⟩) := ck_cell hB2 rfl
      have d2 : W2.cell? ⟨b2, 2, none⟩ = some (.string ⟨w2.toArray⟩) := ck_cell hB2 rfl
      have lb2 : b2 < W2.heap.size := lt_of_getElem? hB2
      obtain ⟨v, hv⟩ : ∃ b, (w2 == [71, 76, 67, 47, 49]) = b := ⟨_, rfl⟩
      clear c0 hB1
      cases v with
      | false =>
        have HN : Hid (headP s = none) := Lib.hid (by
          rw [HH.out, if_neg (fun e => by rw [e] at hv; cases hv)])
        go_wp2_with fail
        (with_reducible refine (HB _).mono ?_)
        rintro e x4 ⟨rfl, hw⟩
        have hw' := hw.symm
        subst hw'
        clear hw
        go_wp2
        refine ⟨rfl, ?_⟩
        rw [HN.out]
        exact ⟨rfl, GX.of hgw⟩
      | true =>
        have HE : Hid (headP s = (targetP w0 w1).bind (fun o => linesP o l1 l2)) := Lib.hid (by
          rw [HH.out, if_pos (eq_of_beq hv)])
        go_wp2_with fail
        (with_reducible refine (HM _).mono ?_)
        rintro e x4 ⟨rfl, hw⟩
        have hw' := hw.symm
        subst hw'
        clear hw hv
        have hPW : W2.heap[g]? = some (.cells (opCells opZero (.slice none 0 0)) 73) := (hgw.block g hlw).trans HP.out
        have HQ : Hid (∀ W, Grow W2 W → Calls Tryz.prog 81 #[.pointer (some ⟨g, 0, none⟩), .string ⟨w0.toArray⟩, .string ⟨w1.toArray⟩] W (UpPost g (targetP w0 w1) W)) := Lib.hid (fun W hW => qtarget_any (Hb.out.grow (hgw.trans hW)) hg8 ((hW.block g (lt_of_getElem? hPW)).trans hPW) hw1 hw0)
        go_wp2_with fail
        refine wp_region_pi (fun W => W.cell? ⟨b2, 0, none⟩ = some (.string ⟨w0.toArray⟩) ∧ W.cell? ⟨b2, 1, none⟩ = some (.string ⟨w1.toArray⟩)) [(0, false), (1, false), (2, false), (3, false), (4, false), (5, false), (6, false), (7, true)] (by kernel_rfl) (by kernel_rfl) (fun c a d v w h => by cases d <;> exact h) ⟨by simpa using d0, by simpa using d1⟩ ?_
        simp only [arrange, nth]
        repeat (first | (refine wpPi_quiet (v := ?_) (by rfl) (fun W hW => ?_) ?_; rotate_left; (obtain ⟨k0, k1⟩ := hW; go_simp; with_reducible rfl); simp only [Act.put, List.setIfInBounds_toArray, List.set_cons_zero, List.set_cons_succ]) | (refine wpPi_off (by rfl) ?_; simp only [Act.put, List.setIfInBounds_toArray, List.set_cons_zero, List.set_cons_succ]))
        refine wpPi_callE (by rfl) (by go_simp) (HQ.out _ (Grow.drew _)) ?_
        intro e w3 he
        unfold UpPost at he
        cases ht : targetP w0 w1 with
        | none =>
          rw [ht] at he
          obtain ⟨rfl, hgx⟩ := he
          have HN : Hid (headP s = none) := Lib.hid (by rw [HE.out, ht]; rfl)
          clear ht
          refine .inr ⟨_, rfl, ?_⟩
          go_wp2
          refine ⟨rfl, ?_⟩
          rw [HN.out]
          exact ⟨rfl, (GX.of hgw).trans ((GX.of (Grow.drew _)).trans hgx)⟩
        | some o =>
          rw [ht] at he
          obtain ⟨rfl, ⟨pv, hP3, hIv⟩, hgx⟩ := he
          have HL3 : Hid (headP s = linesP o l1 l2) := Lib.hid (by rw [HE.out, ht]; rfl)
          have hgx2 : GX g W2 w3 := (GX.of (Grow.drew _)).trans hgx
          have hB2n : b2 ≠ g := by have := Hb2.out; have := hg1.size; omega
          have hB23 := hgx2.block hB2 hB2n
          have hB13 := hgx2.block hB1' hgb1
          have k0 : w3.cell? ⟨b2, 0, none⟩ = some (.string ⟨w0.toArray⟩) := ck_cell hB23 rfl
          have k1 : w3.cell? ⟨b2, 1, none⟩ = some (.string ⟨w1.toArray⟩) := ck_cell hB23 rfl
          refine .inl ⟨_, rfl, ⟨k0, k1⟩, ?_⟩
          try simp only [Act.put, List.setIfInBounds_toArray, List.set_cons_zero, List.set_cons_succ]
          refine wpPi_nil ?_
          clear ht k0 k1 d0 d1 d2 hB23 hB2 HQ HS2 HS
          have hgxw : GX g w w3 := (GX.of hgw).trans hgx2
          have e1 : w3.cell? ⟨b1, 1, none⟩ = some (.string ⟨l1.toArray⟩) := ck_cell hB13 rfl
          have HPre := Lib.hid (prefix_any l1 [105, 100, 58, 32] w3)
          have HIv := Lib.hid hIv
          have HP3 := Lib.hid hP3
          have HB13 := Lib.hid hB13
          clear hIv hP3 hB13 hgx hgx2 hB1'
          obtain ⟨p1, hp1⟩ : ∃ b, Lib.hasPrefix l1 [105, 100, 58, 32] = b := ⟨_, rfl⟩
          rw [hp1] at HPre
          have Hp1 := Lib.hid hp1
          clear hp1
          go_wp2_with fail
          (with_reducible refine HPre.out.mono ?_)
          rintro e x4 ⟨rfl, hw⟩
          have hw' := hw.symm
          subst hw'
          clear hw
          cases p1 with
          | false =>
            have HN : Hid (headP s = none) := Lib.hid (by
              rw [HL3.out]
              unfold linesP cutP
              rw [Hp1.out]
              simp)
            go_wp2_with fail
            (with_reducible refine (HB _).mono ?_)
            rintro e x4 ⟨rfl, hw⟩
            have hw' := hw.symm
            subst hw'
            clear hw
            go_wp2
            refine ⟨rfl, ?_⟩
            rw [HN.out]
            exact ⟨rfl, hgxw⟩
          | true =>
            have HL4 : Hid (headP s = match cutP l2 (([108, 101, 110, 103, 116, 104, 58, 32] : List UInt8)) with
                | some size => (unhex (l1.drop 4)).map fun u => ({ o with id := u }, size)
                | none => none) := Lib.hid (by
              rw [HL3.out]
              unfold linesP
              rw [show cutP l1 (([105, 100, 58, 32] : List UInt8)) = some (l1.drop 4) by unfold cutP; rw [Hp1.out]; rfl]
              cases cutP l2 (([108, 101, 110, 103, 116, 104, 58, 32] : List UInt8)) <;> rfl)
            have htr : Lib.trimPrefix l1 [105, 100, 58, 32] = l1.drop 4 := trim_drop Hp1.out
            rw [htr]
            clear htr
            go_wp2_with fail
            (with_reducible refine (HM _).mono ?_)
            rintro e x4 ⟨rfl, hw⟩
            have hw' := hw.symm
            subst hw'
            clear hw
            have hU := unsixteen_any ⟨(l1.drop 4).toArray⟩ (Hb.out.gx hg8 hgxw) (by show (l1.drop 4).toArray.size ≤ _; simp; omega)
            have hid0 : UnsPost (⟨(l1.drop 4).toArray⟩ : ByteArray).data.toList = UnsPost (l1.drop 4) := rfl
            rw [hid0] at hU
            have HU := Lib.hid hU
            clear hU hid0 e1
            have hl3 : g < w3.heap.size := lt_of_getElem? HP3.out
            have hb13 : b1 < w3.heap.size := lt_of_getElem? HB13.out
            cases hu : unhex (l1.drop 4) with
            | none =>
              have HN : Hid (headP s = none) := Lib.hid (by
                rw [HL4.out, hu]
                cases cutP l2 (([108, 101, 110, 103, 116, 104, 58, 32] : List UInt8)) <;> rfl)
              have Hu := Lib.hid hu
              clear hu
              go_wp2_with fail
              (with_reducible refine HU.out.mono ?_)
              rintro e w5 ⟨he, hg5⟩
              unfold UnsPost at he
              rw [Hu.out] at he
              obtain ⟨n, _, _, rfl⟩ := he
              have hP5 := (hg5.block g hl3).trans HP3.out
              have a0 : w5.cell? ⟨g, 0, none⟩ = some (.int .u64 (o.id : Int)) := ck_cell hP5 rfl
              have b0 : w5.frozen? ⟨g, 0, none⟩ = false := by simp [World.frozen?, hP5]
              have hg6 : GX g w (w5.setCell ⟨g, 0, none⟩ (.int .u64 n)) := (hgxw.trans (GX.of hg5)).trans (GX.store w5 0 _)
              go_upto_region 9 with fail
              generalize w5.setCell ⟨g, 0, none⟩ (.int .u64 n) = W6 at *
              clear a0 b0 hP5
              go_wp2_with fail
              (with_reducible refine (HB _).mono ?_)
              rintro e x4 ⟨rfl, hw⟩
              have hw' := hw.symm
              subst hw'
              clear hw
              go_wp2
              refine ⟨rfl, ?_⟩
              rw [HN.out]
              exact ⟨rfl, hg6⟩
            | some u =>
              have HL5 : Hid (headP s = (cutP l2 (([108, 101, 110, 103, 116, 104, 58, 32] : List UInt8))).map fun size => ({ o with id := u }, size)) := Lib.hid (by
                rw [HL4.out, hu]
                cases cutP l2 (([108, 101, 110, 103, 116, 104, 58, 32] : List UInt8)) <;> rfl)
              have Hu := Lib.hid hu
              clear hu
              go_wp2_with fail
              (with_reducible refine HU.out.mono ?_)
              rintro e w5 ⟨he, hg5⟩
              unfold UnsPost at he
              rw [Hu.out] at he
              subst he
              have hP5 := (hg5.block g hl3).trans HP3.out
              have a0 : w5.cell? ⟨g, 0, none⟩ = some (.int .u64 (o.id : Int)) := ck_cell hP5 rfl
              have b0 : w5.frozen? ⟨g, 0, none⟩ = false := by simp [World.frozen?, hP5]
              have hgs : GX g w5 (w5.setCell ⟨g, 0, none⟩ (.int .u64 u)) := GX.store w5 0 _
              have hP6 : (w5.setCell ⟨g, 0, none⟩ (.int .u64 u)).heap[g]? = some (.cells (opCells { o with id := u } pv) 73) := setCell_heap hP5 0 _
              have hB15 := hgs.block ((hg5.block b1 hb13).trans HB13.out) hgb1
              have hIv6 := pv_store (HIv.out.grow hg5) hP5 (by decide) 0 (.int .u64 u)
              go_upto_region 9 with fail
              generalize w5.setCell ⟨g, 0, none⟩ (.int .u64 u) = W6 at *
              have hg6 : GX g w W6 := (hgxw.trans (GX.of hg5)).trans hgs
              clear a0 b0 hP5
              go_wp2_with fail
              (with_reducible refine (HM _).mono ?_)
              rintro e x4 ⟨rfl, hw⟩
              have hw' := hw.symm
              subst hw'
              clear hw
              have e2 : W6.cell? ⟨b1, 2, none⟩ = some (.string ⟨l2.toArray⟩) := ck_cell hB15 rfl
              have HPre2 := Lib.hid (prefix_any l2 [108, 101, 110, 103, 116, 104, 58, 32] W6)
              obtain ⟨p2, hp2⟩ : ∃ b, Lib.hasPrefix l2 [108, 101, 110, 103, 116, 104, 58, 32] = b := ⟨_, rfl⟩
              rw [hp2] at HPre2
              have Hp2 := Lib.hid hp2
              have Hend := Lib.hid (And.intro hP6 hIv6)
              clear hp2 hP6 hIv6 hB15 hgs hg5
              go_wp2_with fail
              (with_reducible refine HPre2.out.mono ?_)
              rintro e x4 ⟨rfl, hw⟩
              have hw' := hw.symm
              subst hw'
              clear hw
              cases p2 with
              | false =>
                have HN : Hid (headP s = none) := Lib.hid (by
                  rw [HL5.out]
                  unfold cutP
                  rw [Hp2.out]
                  simp)
                go_wp2_with fail
                (with_reducible refine (HB _).mono ?_)
                rintro e x4 ⟨rfl, hw⟩
                have hw' := hw.symm
                subst hw'
                clear hw
                go_wp2
                refine ⟨rfl, ?_⟩
                rw [HN.out]
                exact ⟨rfl, hg6⟩
              | true =>
                have HS7 : Hid (headP s = some ({ o with id := u }, l2.drop 8)) := Lib.hid (by
                  rw [HL5.out]
                  unfold cutP
                  rw [Hp2.out]
                  rfl)
                have htr : Lib.trimPrefix l2 [108, 101, 110, 103, 116, 104, 58, 32] = l2.drop 8 := trim_drop Hp2.out
                rw [htr]
                clear htr
                go_wp2_with fail
                (with_reducible refine (HM _).mono ?_)
                rintro e x4 ⟨rfl, hw⟩
                have hw' := hw.symm
                subst hw'
                clear hw
                go_wp2
                go_ret
                rw [HS7.out]
                exact ⟨rfl, ⟨pv, Hend.out.1, Hend.out.2⟩, hg6⟩
    · have HN : Hid (headP s = none) := Lib.hid (headP_not2 HL.out.symm (by rw [← HL2.out]; exact hn))
      have HS2 := Lib.hid hS2
      have hf : ((L2.length : Int) == 3) = false := by
        cases hb : ((L2.length : Int) == 3) with
        | false => rfl
        | true => exact absurd (by have := eq_of_beq hb; omega) hn
      clear hS2 hn
      go_wp2_with fail
      (with_reducible refine HS2.out.mono ?_)
      rintro e x3 ⟨rfl, rfl⟩
      have hg2 := Grow.alloc W1 (.cells (scells L2).toArray 9)
      generalize W1.alloc (.cells (scells L2).toArray 9) = W2 at *
      go_wp2_with fail
      (with_reducible refine (HB _).mono ?_)
      rintro e x4 ⟨rfl, hw⟩
      have hw' := hw.symm
      subst hw'
      clear hw
      go_wp2
      refine ⟨rfl, ?_⟩
      rw [HN.out]
      exact ⟨rfl, GX.of (hg1.trans hg2)⟩
  · have HN : Hid (headP s = none) := Lib.hid (headP_not (by rw [← HL.out]; exact hn))
    have HS := Lib.hid hS
    have hf : ((L.length : Int) == 3) = false := by
      cases hb : ((L.length : Int) == 3) with
      | false => rfl
      | true => exact absurd (by have := eq_of_beq hb; omega) hn
    clear hS hn
    go_enter Tryz.func46, Tryz.ntmps46
    go_wp2_with fail
    (with_reducible refine HS.out.mono ?_)
    rintro e x3 ⟨rfl, rfl⟩
    have hg2 := Grow.alloc w (.cells (scells L).toArray 9)
    generalize w.alloc (.cells (scells L).toArray 9) = W2 at *
    go_wp2_with fail
    (with_reducible refine (HB _).mono ?_)
    rintro e x4 ⟨rfl, hw⟩
    have hw' := hw.symm
    subst hw'
    clear hw
    go_wp2
    refine ⟨rfl, ?_⟩
    rw [HN.out]
    exact ⟨rfl, GX.of hg2⟩
end Go.Proofs.YtdegmpimcappjaaGreatDoor

/- strconv.FormatUint at base 10; 'large'. -/
namespace Go.Proofs.YtdegmpimcappjaaGreatDoor
open Go.RowKit Go.Gl Go.Front

theorem nd_any {w : World} (hb : Base w) {u : Nat} (h1 : 1 ≤ u) (h2 : u < 18446744073709551616) : Calls Tryz.prog 119 #[.int .u64 u] w fun e w' => e = .returned (.int .i64 (Lib.nDigits u)) ∧ w' = w :=
  Any.internal_strconv_numDigits { Tryz.laysM171 with } u h1 h2 w hb.pow

theorem holds24 (w : World) (T : TypeId) (nd : Nat) (hs : nd ≤ 24) : Go.Sort.Holds (fun (b : UInt8) => Value.int .u8 (b.toNat : Int)) (w.alloc (.cells Lib.zeros24 T)) w.heap.size 0 (Array.replicate nd (0 : UInt8)) := fun j hj => by
  have hj' : j < nd := by simpa using hj
  refine ⟨?_, World.frozen?_alloc_new _ _ _ _⟩
  rw [World.cell?_alloc_new, Lib.zeros24_at _ (by omega), getElem!_pos _ j hj]
  simp

theorem slice24 {n : Nat} (hn : n ≤ 24) (b : Nat) (W : World) : (Instr.sliceAt 137 (.pointer (some ⟨b, 0, none⟩)) none (some (.int .i64 (n : Int))) none).run Tryz.prog W = .ok (.slice (some ⟨b, 0, none⟩) n 24) W := by
  have hal : Tryz.prog.arrayLen 137 = 24 := by kernel_rfl
  rw [run_sliceAt_array_h W 137 ⟨b, 0, none⟩ (by kernel_rfl) .i64 (n : Int) (by omega) (by rw [hal]; omega), hal]
  go_simp

set_option maxRecDepth 100000 in
theorem formatI10 {w : World} (hb : Base w) (u : Nat) (hu : u < 18446744073709551616) :
    Calls Tryz.prog 93 #[.int .u64 u, .int .i64 10] w fun e w' => e = .returned (.string ⟨(decF u).toArray⟩) ∧ Grow w w' := by
  by_cases hs : u < 100
  · have HF := Lib.hid (Tryz.internal_strconv_small u hs w)
    clear hb
    have h1 : (u : Int) < 100 := by omega
    go_enter Tryz.func93, Tryz.ntmps93
    go_wp2_with fail
    (with_reducible refine HF.out.mono ?_)
    rintro e w1 ⟨rfl, hw⟩
    have hw' := hw.symm
    subst hw'
    clear hw
    go_wp2
    go_ret
    exact ⟨rfl, Grow.refl _⟩
  · have hu1 : 1 ≤ u := by omega
    have h1 : ¬ ((u : Int) < 100) := by omega
    have hnd20 : Lib.nDigits u ≤ 20 := by have := Lib.numDigits_eq u hu1 hu; split at this <;> omega
    have Hb := Lib.hid hb
    clear hb
    go_enter Tryz.func93, Tryz.ntmps93
    go_wp2_with fail
    (with_reducible refine (nd_any (Hb.out.grow (Grow.alloc _ _)) hu1 hu).mono ?_)
    rintro e w1 ⟨rfl, hw⟩
    have hw' := hw.symm
    subst hw'
    clear hw
    have hsl := slice24 (n := Lib.nDigits u) (by omega) w.heap.size
    have hH0 := holds24 w 137 (Lib.nDigits u) (by omega)
    have hfmt := Tryz.internal_strconv_formatBase10 w.heap.size 0 24 u (Array.replicate (Lib.nDigits u) 0) (w.alloc (.cells Lib.zeros24 137)) hH0 (by rw [Array.size_replicate]; exact Lib.lt_pow_nDigits u) hu (by rw [Array.size_replicate]; omega)
    rw [Array.size_replicate] at hfmt
    have HH0 := Lib.hid hH0
    have Hf := Lib.hid hfmt
    clear hH0 hfmt
    go_wp2_with fail
    refine Hf.out.mono ?_
    rintro e w2 ⟨rfl, k, v', dk, hw2, hF⟩
    have hg2 : Grow w w2 := by
      rw [hw2]
      obtain ⟨os', _, e⟩ := Go.Sort.putRow_grow_new (fun (b : UInt8) => Value.int .u8 (b.toNat : Int)) w #[.cells Lib.zeros24 137] w.heap.size 0 dk (Nat.le_refl _)
      have e2 : w.alloc (.cells Lib.zeros24 137) = Go.Sort.grow w #[.cells Lib.zeros24 137] := Go.Sort.alloc_eq_grow _ _
      rw [e2, e]
      exact grow_below w k os'
    have hcv : (convert 24 9 (.slice (some ⟨w.heap.size, 0, none⟩) (Lib.nDigits u) 24)).run Tryz.prog w2 = .ok (.string ⟨(Lib.decDigits u).toArray⟩) w2 := by
      have h := run_convert_bytes_back (P := Tryz.prog) w2 24 9 5 ⟨w.heap.size, 0, none⟩ 24 (Lib.decDigits u) Tryz.underlying24 Tryz.underlying5 Tryz.underlying9 (fun j hj => by
        rw [Lib.row_is_numeral hF j hj, Lib.add_plain, hw2, World.cell?_drewN]
        exact Go.Sort.cell?_putRow (fun (b : UInt8) => Value.int .u8 (b.toNat : Int)) _ w.heap.size 0 _ dk HH0.out (by rw [hF.size, Array.size_replicate]) j (by rw [hF.size]; rw [Lib.decDigits_length] at hj; exact hj))
      rw [Lib.decDigits_length] at h
      exact h
    have Hg2 := Lib.hid hg2
    clear hw2 hF hg2
    go_wp2
    go_ret
    exact ⟨rfl, Hg2.out⟩

theorem formatU10 {w : World} (hb : Base w) (u : Nat) (hu : u < 18446744073709551616) :
    Calls Tryz.prog 71 #[.int .u64 u, .int .i64 10] w fun e w' => e = .returned (.string ⟨(decF u).toArray⟩) ∧ Grow w w' := by
  have HF := Lib.hid (formatI10 hb u hu)
  clear hb
  go_enter Tryz.func71, Tryz.ntmps71
  go_wp2_with fail
  (with_reducible refine HF.out.mono ?_)
  rintro e w1 ⟨rfl, hg1⟩
  have Hg := Lib.hid hg1
  clear hg1
  go_wp2
  go_ret
  exact ⟨rfl, Hg.out⟩

theorem pu_dec {u : Nat} (h : u < 18446744073709551616) : Lib.parseUintB 64 (decF u) = .ok u := by
  unfold Lib.parseUintB
  rw [if_neg (decF_ne u)]
  show Lib.parseUintM 18446744073709551615 0 (decF u) = _
  rw [Lib.parseUintM_64, parseU_digits _ _ (decF_digits u) (by rw [valD_decF]; exact h), valD_decF]

theorem pu_lt {s : List UInt8} {u : Nat} (h : Lib.parseUintB 64 s = .ok u) : u < 18446744073709551616 := by
  unfold Lib.parseUintB at h
  split at h
  · cases h
  · have := Lib.parseUintM_le _ _ _ _ (Nat.zero_le _) h
    omega

theorem large_ok {s : List UInt8} {u : Nat} (h : Lib.parseUintB 64 s = .ok u) : largeB s = (decide (s.length ≤ 19) && (decF u == s) && decide (16777216 < u)) := by
  have hu := pu_lt h
  unfold largeB
  cases hd : decR s with
  | some m =>
    obtain ⟨h1, h2⟩ := decR_some hd
    have h3 := pu_dec (u := m) (by
      have := valD_decF m
      have h4 : m < 10 ^ 20 := by
        have := Lib.lt_pow_nDigits m
        have h5 : Lib.nDigits m = (decF m).length := (Lib.decDigits_length m).symm
        rw [h5, h1] at this
        exact Nat.lt_of_lt_of_le this (Nat.pow_le_pow_right (by omega) (by omega))
      have := Lib.lt_pow_nDigits m
      have h5 : Lib.nDigits m = (decF m).length := (Lib.decDigits_length m).symm
      rw [h5, h1] at this
      exact Nat.lt_of_lt_of_le this (Nat.le_trans (Nat.pow_le_pow_right (n := 10) (by omega) h2) (by decide)))
    rw [h1, h] at h3
    cases h3
    simp [h1, h2]
  | none =>
    cases hc : (decide (s.length ≤ 19) && (decF u == s)) with
    | false => simp
    | true =>
      simp only [Bool.and_eq_true, decide_eq_true_eq] at hc
      have h2 := eq_of_beq hc.2
      rw [← h2, decR_decF (by rw [h2]; exact hc.1)] at hd
      cases hd

theorem large_no {s : List UInt8} (h : ∀ u, Lib.parseUintB 64 s ≠ .ok u) : largeB s = false := by
  unfold largeB
  cases hd : decR s with
  | none => rfl
  | some m =>
    obtain ⟨h1, h2⟩ := decR_some hd
    refine absurd ?_ (h m)
    rw [← h1]
    refine pu_dec ?_
    have := Lib.lt_pow_nDigits m
    have h5 : Lib.nDigits m = (decF m).length := (Lib.decDigits_length m).symm
    rw [h5, h1] at this
    exact Nat.lt_of_lt_of_le this (Nat.le_trans (Nat.pow_le_pow_right (n := 10) (by omega) h2) (by decide))

set_option maxRecDepth 100000 in
theorem large_any (s : List UInt8) {w : World} (hb : Base w) (hs : s.length ≤ 1000000) :
    Calls Tryz.prog 48 #[.string ⟨s.toArray⟩] w fun e w' => e = .returned (.bool (largeB s)) ∧ Grow w w' := by
  have hsz : (⟨s.toArray⟩ : ByteArray).size = s.length := by simp [ByteArray.size]
  cases hp : Lib.parseUintB 64 s with
  | ok u =>
    have hu := pu_lt hp
    have HL := Lib.hid (large_ok hp)
    have HA := Lib.hid (Tryz.strconv_ParseUint_10_at64_ok ⟨s.toArray⟩ (by rw [hsz]; omega) u hp w)
    obtain ⟨b1, hb1⟩ : ∃ b, decide ((s.length : Int) ≤ 19) = b := ⟨_, rfl⟩
    obtain ⟨b2, hb2⟩ : ∃ b, (decF u == s) = b := ⟨_, rfl⟩
    obtain ⟨b3, hb3⟩ : ∃ b, decide ((16777216 : Int) < (u : Int)) = b := ⟨_, rfl⟩
    have HB : Hid (largeB s = (b1 && b2 && b3)) := Lib.hid (by
      rw [HL.out, ← hb1, ← hb2, ← hb3]
      have k1 : decide (s.length ≤ 19) = decide ((s.length : Int) ≤ 19) := decide_eq_decide.2 (by omega)
      have k2 : decide (16777216 < u) = decide ((16777216 : Int) < (u : Int)) := decide_eq_decide.2 (by omega)
      rw [k1, k2])
    have Hb := Lib.hid hb
    clear hp HL hb
    go_enter Tryz.func48, Tryz.ntmps48
    go_wp2_with fail
    (with_reducible refine HA.out.mono ?_)
    rintro e w1 ⟨rfl, hw1⟩
    have hg1 : Grow w w1 := by
      rcases hw1 with rfl | rfl
      · exact Grow.refl _
      · exact Lib.bytesWorld_below w _ _
    clear hw1
    cases b1 with
    | false =>
      go_wp2
      go_ret
      exact ⟨by rw [HB.out]; rfl, hg1⟩
    | true =>
      go_wp2_with fail
      (with_reducible refine (formatU10 (Hb.out.grow hg1) u hu).mono ?_)
      rintro e w2 ⟨rfl, hg2⟩
      cases b2 with
      | false =>
        go_wp2
        go_ret
        exact ⟨by rw [HB.out]; rfl, hg1.trans hg2⟩
      | true =>
        go_wp2
        go_ret
        exact ⟨by rw [HB.out]; rfl, hg1.trans hg2⟩
  | range =>
    obtain ⟨ev, h1, h2⟩ := hb.ran
    have HL := Lib.hid (large_no (s := s) (fun u h => by rw [hp] at h; cases h))
    have HA := Lib.hid (Tryz.strconv_ParseUint_10_at64_range ⟨s.toArray⟩ (by rw [hsz]; omega) hp ev w h1 h2)
    clear hp h1 h2 hb
    go_enter Tryz.func48, Tryz.ntmps48
    go_wp2_with fail
    (with_reducible refine HA.out.mono ?_)
    rintro e w1 ⟨N, rfl, _, _, hg1⟩
    go_wp2
    go_ret
    exact ⟨by rw [HL.out]; rfl, hg1⟩
  | _ =>
    obtain ⟨ev, h1, h2⟩ := hb.syn
    have HL := Lib.hid (large_no (s := s) (fun u h => by rw [hp] at h; cases h))
    have HA := Lib.hid (Tryz.strconv_ParseUint_10_at64_syntax ⟨s.toArray⟩ (by rw [hsz]; omega) hp ev w h1 h2)
    clear hp h1 h2 hb
    go_enter Tryz.func48, Tryz.ntmps48
    go_wp2_with fail
    (with_reducible refine HA.out.mono ?_)
    rintro e w1 ⟨N, rfl, _, _, hg1⟩
    go_wp2
    go_ret
    exact ⟨by rw [HL.out]; rfl, hg1⟩
end Go.Proofs.YtdegmpimcappjaaGreatDoor

/- slices.Clone. -/
namespace Go.Proofs.YtdegmpimcappjaaGreatDoor
open Go.RowKit Go.Gl Go.Front

/-- 'append([]byte{}, p...)'. -/
theorem append_fresh {w : World} {pv : Value} {l : List UInt8} (h : Bv w pv l) (hl : l.length ≤ 1000000000) :
    ∃ v' w', (Builtin.append_ #[24, 24] 24 #[.slice (some ⟨w.heap.size, 0, none⟩) 0 0, pv]).run Tryz.prog (w.alloc (.cells #[] 5)) = .ok v' w' ∧ Bv w' v' l ∧ Grow w w' := by
  have hga : Grow w (w.alloc (.cells #[] 5)) := Grow.alloc _ _
  have hown : OwnB w.heap.size (w.alloc (.cells #[] 5)) (.slice (some ⟨w.heap.size, 0, none⟩) 0 0) [] :=
    .inr ⟨w.heap.size, 0, #[], rfl, Nat.le_refl _, heap_alloc_new _ _, Nat.le_refl _, Nat.le_refl _, Nat.zero_le _, rfl⟩
  obtain ⟨v', w', h1, h2, h3, h4⟩ := append_bytes hown (h.grow hga) hga.size (by simp; omega)
  exact ⟨v', w', h1, by rw [List.nil_append] at h2; exact ownB_bv h2, below_grown hga (Nat.le_of_lt (by simp)) hown h3⟩

set_option maxRecDepth 100000 in
theorem clone_any {w : World} {v : Value} {l : List UInt8} (h : Bv w v l) (hl : l.length ≤ 1000000000) : Calls Tryz.prog 49 #[v] w fun e w' => (∃ v', e = .returned v' ∧ Bv w' v' l) ∧ Grow w w' := by
  obtain ⟨v', w', r1, r2, r3⟩ := append_fresh h hl
  obtain ⟨a, c, rfl, h1, h2, h3, h4⟩ := h
  cases a with
  | none =>
    have e := h3 rfl
    have hl0 : l = [] := List.eq_nil_of_length_eq_zero (by omega)
    subst hl0
    subst e
    clear h1 h2 h3 h4 hl r1 r2 r3
    have e0 : (binOp .eql 24 (.slice none 0 0) (.slice none 0 0)).run Tryz.prog w = .ok (.bool true) w := Lib.run_eql_slice_nil w 24 5 none 0 0 0 0 Tryz.underlying24
    go_enter Tryz.func49, Tryz.ntmps49
    go_wp2
    go_ret
    exact ⟨⟨_, rfl, bv_nil _⟩, Grow.refl _⟩
  | some a =>
    have R2 := Lib.hid r2
    have R3 := Lib.hid r3
    have Hrun := Lib.hid r1
    clear h1 h2 h3 h4 r1 r2 r3
    have e0 : (binOp .eql 24 (.slice (some a) l.length c) (.slice none 0 0)).run Tryz.prog w = .ok (.bool false) w := Lib.run_eql_slice_nil w 24 5 (some a) l.length c 0 0 Tryz.underlying24
    go_enter Tryz.func49, Tryz.ntmps49
    go_wp2_with (at_builtin; refine wpList_append rfl rfl rfl rfl Hrun.out ?_)
    go_ret
    exact ⟨⟨_, rfl, R2.out⟩, R3.out⟩
end Go.Proofs.YtdegmpimcappjaaGreatDoor

/- The document's row of numbers with commas between. -/
namespace Go.Proofs.YtdegmpimcappjaaGreatDoor
open Go.RowKit Go.Gl Go.Front

theorem ext_to (s : List UInt8) (n : Nat) : (⟨s.toArray⟩ : ByteArray).extract 0 n = ⟨(s.take n).toArray⟩ := by
  apply ByteArray.ext
  simp
theorem ext_from (s : List UInt8) (n : Nat) : (⟨s.toArray⟩ : ByteArray).extract n s.length = ⟨(s.drop n).toArray⟩ := by
  apply ByteArray.ext
  simp
  exact List.take_of_length_le (by simp)

theorem hexedL (s : List UInt8) (w : World) (hs : s.length ≤ 1000000) : Calls Tryz.prog 64 #[.string ⟨s.toArray⟩] w fun e w' => e = .returned (hexedV (unhex s)) ∧ w' = w :=
  hexed_any ⟨s.toArray⟩ w (by show s.toArray.size ≤ _; simp; omega)
theorem smallL (s : List UInt8) (w : World) (hs : s.length ≤ 1000000) : Calls Tryz.prog 63 #[.string ⟨s.toArray⟩] w fun e w' => SmallPost s e ∧ w' = w :=
  smallR_any ⟨s.toArray⟩ w (by show s.toArray.size ≤ _; simp; omega)

def strOf (v : Value) : Nat := match v with | .string s => s.size | _ => 0

theorem until_less {s x a b : List UInt8} (h : untilR s x = some (a, b)) (hx : 1 ≤ x.length) : b.length < s.length := by
  have hne : s ≠ [] := by
    intro e
    subst e
    unfold untilR Lib.cut at h
    rw [index_short [] x (by simp; omega)] at h
    simp at h
  have hp : 1 ≤ s.length := by
    cases s with
    | nil => exact absurd rfl hne
    | cons c r => simp
  unfold untilR Lib.cut at h
  split at h
  · rename_i a' b' he
    cases h
    split at he
    · cases he
      rw [List.length_drop]
      omega
    · cases he
  · cases h

/-- What listed tells. -/
def LstPost (o : Option (List Int)) (w : World) (e : Ending) (w' : World) : Prop := Grow w w' ∧ match o with
  | some l => ∃ pv, e = .returned (.tuple #[pv, .bool true]) ∧ Pv w' pv l
  | none => e = .returned (.tuple #[.slice none 0 0, .bool false])

def LstInv (w : World) (s : List UInt8) (sv lv : Value) (wr : World) : Prop :=
  ∃ (cur : List UInt8) (acc : List Int) (k : Nat), sv = .string ⟨cur.toArray⟩ ∧ cur.length < k ∧ cur.length ≤ s.length ∧ acc.length ≤ 20001 ∧ OwnI w.heap.size wr lv acc ∧ listedR s = (listedF k acc.length cur).map (acc ++ ·) ∧ Grow w wr

theorem lst_step {k c : Nat} {cur a rest : List UInt8} (h : untilR cur [44] = some (a, rest)) : listedF (k + 1) c cur = match smallR a with
    | some n => if c ≤ 20000 then (listedF k (c + 1) rest).map ((n : Int) :: ·) else none
    | none => none := by
  rw [listedF, h]
  rfl

theorem lst_last {k c : Nat} {cur : List UInt8} (h : untilR cur [44] = none) : listedF (k + 1) c cur = match smallR cur with
    | some n => if c ≤ 20000 then some [(n : Int)] else none
    | none => none := by
  rw [listedF, h]
  rfl

set_option maxRecDepth 100000 in
set_option maxHeartbeats 4000000 in
theorem listed_any (s : List UInt8) (w : World) (hs : s.length ≤ 100000) : Calls Tryz.prog 135 #[.string ⟨s.toArray⟩] w (LstPost (listedR s) w) := by
  go_enter Tryz.func135, Tryz.ntmps135
  go_wp2_with fail
  go_loopw [0, 4] (fun sv lv wr => LstInv w s sv lv wr) (fun sv _ _ => strOf sv)
  case atStart => exact ⟨s, [], s.length + 1, rfl, by omega, Nat.le_refl _, by simp, row1_nil _ _ _, by
    show listedF (s.length + 1) 0 s = (listedF (s.length + 1) 0 s).map ([] ++ ·)
    cases listedF (s.length + 1) 0 s <;> rfl, by (repeat (first | exact Below.refl _ _ | assumption | refine Below.drew ?_ | refine bDrewN ?_ | refine Below.setCell ?_ (by first | omega | (simp <;> omega)) _ | refine Below.alloc ?_ (by first | omega | (simp <;> omega)) _))⟩
  case round =>
    obtain ⟨cur, acc, k, rfl, hk, hcs, hacc, hown, hrr, hg⟩ := hrel
    obtain ⟨k, rfl⟩ : ∃ j, k = j + 1 := ⟨k - 1, by omega⟩
    have HU := Lib.hid (until_any cur [44] wr (by omega) (by simp))
    have Hown := Lib.hid hown
    have Hg := Lib.hid hg
    obtain ⟨ba, bc, hbv⟩ := hown.slice'
    clear hown hg
    obtain ⟨c1, hc1⟩ : ∃ b, decide ((20000 : Int) < (acc.length : Int)) = b := ⟨_, rfl⟩
    have Hc1 : Hid ((decide (acc.length ≤ 20000)) = !c1) := Lib.hid (by
      rw [← hc1]
      rw [← decide_not]
      exact decide_eq_decide.2 (by omega))
    subst hbv
    cases hu : untilR cur [44] with
    | none =>
      have hl := lst_last (k := k) (c := acc.length) hu
      rw [hl] at hrr
      clear hl
      have Hrr := Lib.hid hrr
      have Hu := Lib.hid hu
      have HS := fun W => smallL cur W (by omega)
      clear hrr hu
      go_wp2_with fail
      (with_reducible refine HU.out.mono ?_)
      rintro e w1 ⟨he, hg1⟩
      rw [Hu.out] at he
      have he' : e = .returned (.tuple #[.string ⟨#[]⟩, .string ⟨#[]⟩, .bool false]) := he
      subst he'
      clear he
      have Hg1 := Lib.hid hg1
      clear hg1
      go_wp2_with fail
      (with_reducible refine (HS w1).mono ?_)
      rintro e w2 ⟨he, hw⟩
      have hw' := hw.symm
      subst hw'
      clear hw
      unfold SmallPost at he
      cases hm : smallR cur with
      | none =>
        rw [hm] at he
        obtain ⟨n, _, rfl⟩ := he
        have HN : Hid (listedR s = none) := Lib.hid (by rw [Hrr.out, hm]; rfl)
        clear hm
        go_wp2
        exact bodyPost_ret (v := .tuple #[.slice none 0 0, .bool false]) (by simp [results, Tryz.results135, go_sem]) rfl ⟨Hg.out.trans Hg1.out, by rw [HN.out]⟩
      | some n =>
        rw [hm] at he
        obtain ⟨_, rfl⟩ := he
        have HE : Hid (listedR s = if c1 = true then none else some (acc ++ [(n : Int)])) := Lib.hid (by
          rw [Hrr.out, hm]
          simp only
          have := Hc1.out
          cases c1 with
          | true =>
            have h1 : ¬ acc.length ≤ 20000 := by simpa using this
            rw [if_neg h1]
            rfl
          | false =>
            have h1 : acc.length ≤ 20000 := by simpa using this
            rw [if_pos h1]
            rfl)
        clear hm
        cases c1 with
        | true =>
          go_wp2
          exact bodyPost_ret (v := .tuple #[.slice none 0 0, .bool false]) (by simp [results, Tryz.results135, go_sem]) rfl ⟨Hg.out.trans Hg1.out, by rw [HE.out]; rfl⟩
        | false =>
          have hB : w.heap.size ≤ w1.heap.size := (Hg.out.trans Hg1.out).size
          obtain ⟨v', w', r1, r2, r3, _⟩ := append_int (x := (n : Int)) (Hown.out.grow Hg1.out) hB (by omega)
          obtain ⟨ba', bc', hv'⟩ := OwnI.slice' r2
          have R2 := Lib.hid (r2.mono (Nat.zero_le _))
          have R3 := Lib.hid (Below.trans (Hg.out.trans Hg1.out) r3)
          have Hrun := Lib.hid r1
          clear r1 r2 r3 hv'
          go_wp2_with (at_builtin; refine wpList_append rfl rfl rfl rfl Hrun.out ?_)
          exact bodyPost_ret (v := .tuple #[v', .bool true]) (by simp [results, Tryz.results135, go_sem]) rfl ⟨R3.out, by rw [HE.out]; exact ⟨v', rfl, R2.out⟩⟩
    | some ar =>
      obtain ⟨a, rest⟩ := ar
      have hl := lst_step (k := k) (c := acc.length) hu
      rw [hl] at hrr
      clear hl
      have Hlens := untilR_len hu
      have Hless := until_less hu (by simp)
      have Hrr := Lib.hid hrr
      have Hu := Lib.hid hu
      have HS := fun W => smallL a W (by omega)
      clear hrr hu
      go_wp2_with fail
      (with_reducible refine HU.out.mono ?_)
      rintro e w1 ⟨he, hg1⟩
      rw [Hu.out] at he
      have he' : e = .returned (.tuple #[.string ⟨a.toArray⟩, .string ⟨rest.toArray⟩, .bool true]) := he
      subst he'
      clear he
      have Hg1 := Lib.hid hg1
      clear hg1
      go_wp2_with fail
      (with_reducible refine (HS w1).mono ?_)
      rintro e w2 ⟨he, hw⟩
      have hw' := hw.symm
      subst hw'
      clear hw
      unfold SmallPost at he
      cases hm : smallR a with
      | none =>
        rw [hm] at he
        obtain ⟨n, _, rfl⟩ := he
        have HN : Hid (listedR s = none) := Lib.hid (by rw [Hrr.out, hm]; rfl)
        clear hm
        go_wp2
        exact bodyPost_ret (v := .tuple #[.slice none 0 0, .bool false]) (by simp [results, Tryz.results135, go_sem]) rfl ⟨Hg.out.trans Hg1.out, by rw [HN.out]⟩
      | some n =>
        rw [hm] at he
        obtain ⟨_, rfl⟩ := he
        have HE : Hid (listedR s = if c1 = true then none else (listedF k (acc ++ [(n : Int)]).length rest).map ((acc ++ [(n : Int)]) ++ ·)) := Lib.hid (by
          rw [Hrr.out, hm]
          simp only
          have := Hc1.out
          cases c1 with
          | true =>
            have h1 : ¬ acc.length ≤ 20000 := by simpa using this
            rw [if_neg h1]
            rfl
          | false =>
            have h1 : acc.length ≤ 20000 := by simpa using this
            rw [if_pos h1, if_neg (by decide), List.length_append, List.length_singleton]
            cases listedF k (acc.length + 1) rest <;> simp)
        clear hm
        cases c1 with
        | true =>
          go_wp2
          exact bodyPost_ret (v := .tuple #[.slice none 0 0, .bool false]) (by simp [results, Tryz.results135, go_sem]) rfl ⟨Hg.out.trans Hg1.out, by rw [HE.out]; rfl⟩
        | false =>
          have hB : w.heap.size ≤ w1.heap.size := (Hg.out.trans Hg1.out).size
          have hal : acc.length ≤ 20000 := by simpa using Hc1.out
          obtain ⟨v', w', r1, r2, r3, _⟩ := append_int (x := (n : Int)) (Hown.out.grow Hg1.out) hB (by omega)
          have Hrel : Hid (LstInv w s (.string ⟨rest.toArray⟩) v' w') := Lib.hid ⟨rest, acc ++ [(n : Int)], k, rfl, by omega, by omega, by simp; omega, r2, HE.out, Below.trans (Hg.out.trans Hg1.out) r3⟩
          have Hrun := Lib.hid r1
          clear r1 r2 r3
          go_wp2_with (at_builtin; refine wpList_append rfl rfl rfl rfl Hrun.out ?_)
          go_roundw
          case rel => exact Hrel.out
          case measure => simp [strOf, ByteArray.size]; omega
end Go.Proofs.YtdegmpimcappjaaGreatDoor

/- Nine cells written: an op stored whole. -/
namespace Go.Proofs.YtdegmpimcappjaaGreatDoor
open Go.RowKit Go.Gl Go.Front

/-- An op's nine cells, written one behind the other. -/
abbrev put9 (W : World) (b : Nat) (y0 y1 y2 y3 y4 y5 y6 y7 y8 : Value) : World := ((((((((W.setCell ⟨b, 0, none⟩ y0).setCell ⟨b, 1, none⟩ y1).setCell ⟨b, 2, none⟩ y2).setCell ⟨b, 3, none⟩ y3).setCell ⟨b, 4, none⟩ y4).setCell ⟨b, 5, none⟩ y5).setCell ⟨b, 6, none⟩ y6).setCell ⟨b, 7, none⟩ y7).setCell ⟨b, 8, none⟩ y8

theorem put9_heap {W : World} {b : Nat} {x0 x1 x2 x3 x4 x5 x6 x7 x8 : Value} {T : TypeId} (h : W.heap[b]? = some (.cells #[x0, x1, x2, x3, x4, x5, x6, x7, x8] T)) (y0 y1 y2 y3 y4 y5 y6 y7 y8 : Value) : (put9 W b y0 y1 y2 y3 y4 y5 y6 y7 y8).heap[b]? = some (.cells #[y0, y1, y2, y3, y4, y5, y6, y7, y8] T) := by
  have h0 : (W.setCell ⟨b, 0, none⟩ y0).heap[b]? = some (.cells #[y0, x1, x2, x3, x4, x5, x6, x7, x8] T) := setCell_heap h 0 y0
  have h1 : ((W.setCell ⟨b, 0, none⟩ y0).setCell ⟨b, 1, none⟩ y1).heap[b]? = some (.cells #[y0, y1, x2, x3, x4, x5, x6, x7, x8] T) := setCell_heap h0 1 y1
  have h2 : (((W.setCell ⟨b, 0, none⟩ y0).setCell ⟨b, 1, none⟩ y1).setCell ⟨b, 2, none⟩ y2).heap[b]? = some (.cells #[y0, y1, y2, x3, x4, x5, x6, x7, x8] T) := setCell_heap h1 2 y2
  have h3 : ((((W.setCell ⟨b, 0, none⟩ y0).setCell ⟨b, 1, none⟩ y1).setCell ⟨b, 2, none⟩ y2).setCell ⟨b, 3, none⟩ y3).heap[b]? = some (.cells #[y0, y1, y2, y3, x4, x5, x6, x7, x8] T) := setCell_heap h2 3 y3
  have h4 : (((((W.setCell ⟨b, 0, none⟩ y0).setCell ⟨b, 1, none⟩ y1).setCell ⟨b, 2, none⟩ y2).setCell ⟨b, 3, none⟩ y3).setCell ⟨b, 4, none⟩ y4).heap[b]? = some (.cells #[y0, y1, y2, y3, y4, x5, x6, x7, x8] T) := setCell_heap h3 4 y4
  have h5 : ((((((W.setCell ⟨b, 0, none⟩ y0).setCell ⟨b, 1, none⟩ y1).setCell ⟨b, 2, none⟩ y2).setCell ⟨b, 3, none⟩ y3).setCell ⟨b, 4, none⟩ y4).setCell ⟨b, 5, none⟩ y5).heap[b]? = some (.cells #[y0, y1, y2, y3, y4, y5, x6, x7, x8] T) := setCell_heap h4 5 y5
  have h6 : (((((((W.setCell ⟨b, 0, none⟩ y0).setCell ⟨b, 1, none⟩ y1).setCell ⟨b, 2, none⟩ y2).setCell ⟨b, 3, none⟩ y3).setCell ⟨b, 4, none⟩ y4).setCell ⟨b, 5, none⟩ y5).setCell ⟨b, 6, none⟩ y6).heap[b]? = some (.cells #[y0, y1, y2, y3, y4, y5, y6, x7, x8] T) := setCell_heap h5 6 y6
  have h7 : ((((((((W.setCell ⟨b, 0, none⟩ y0).setCell ⟨b, 1, none⟩ y1).setCell ⟨b, 2, none⟩ y2).setCell ⟨b, 3, none⟩ y3).setCell ⟨b, 4, none⟩ y4).setCell ⟨b, 5, none⟩ y5).setCell ⟨b, 6, none⟩ y6).setCell ⟨b, 7, none⟩ y7).heap[b]? = some (.cells #[y0, y1, y2, y3, y4, y5, y6, y7, x8] T) := setCell_heap h6 7 y7
  have h8 : (((((((((W.setCell ⟨b, 0, none⟩ y0).setCell ⟨b, 1, none⟩ y1).setCell ⟨b, 2, none⟩ y2).setCell ⟨b, 3, none⟩ y3).setCell ⟨b, 4, none⟩ y4).setCell ⟨b, 5, none⟩ y5).setCell ⟨b, 6, none⟩ y6).setCell ⟨b, 7, none⟩ y7).setCell ⟨b, 8, none⟩ y8).heap[b]? = some (.cells #[y0, y1, y2, y3, y4, y5, y6, y7, y8] T) := setCell_heap h7 8 y8
  exact h8

theorem put9_other {W : World} {b c : Nat} (h : c ≠ b) (y0 y1 y2 y3 y4 y5 y6 y7 y8 : Value) : (put9 W b y0 y1 y2 y3 y4 y5 y6 y7 y8).heap[c]? = W.heap[c]? := by
  unfold put9
  rw [Below.heap_setCell _ _ _ _ h, Below.heap_setCell _ _ _ _ h, Below.heap_setCell _ _ _ _ h, Below.heap_setCell _ _ _ _ h, Below.heap_setCell _ _ _ _ h, Below.heap_setCell _ _ _ _ h, Below.heap_setCell _ _ _ _ h, Below.heap_setCell _ _ _ _ h, Below.heap_setCell _ _ _ _ h]

theorem put9_below {B : Nat} {a W : World} (h : Below B a W) {b : Nat} (hb : B ≤ b) (y0 y1 y2 y3 y4 y5 y6 y7 y8 : Value) : Below B a (put9 W b y0 y1 y2 y3 y4 y5 y6 y7 y8) :=
  ((((((((h.setCell hb _).setCell hb _).setCell hb _).setCell hb _).setCell hb _).setCell hb _).setCell hb _).setCell hb _).setCell hb _

theorem put9_pv {W : World} {b : Nat} {pv : Value} {l : List Int} {cs : Array Value} {T : TypeId} (h : Pv W pv l) (hP : W.heap[b]? = some (.cells cs T)) (ht : T ≠ 3) (y0 y1 y2 y3 y4 y5 y6 y7 y8 : Value) : Pv (put9 W b y0 y1 y2 y3 y4 y5 y6 y7 y8) pv l :=
  h.keep fun c hc => put9_other (fun e => h.apart hP ht (by rw [hc, e])) y0 y1 y2 y3 y4 y5 y6 y7 y8

theorem put9_gx {W : World} {b : Nat} (y0 y1 y2 y3 y4 y5 y6 y7 y8 : Value) : GX b W (put9 W b y0 y1 y2 y3 y4 y5 y6 y7 y8) :=
  ((((((((GX.store _ _ _).trans (GX.store _ _ _)).trans (GX.store _ _ _)).trans (GX.store _ _ _)).trans (GX.store _ _ _)).trans (GX.store _ _ _)).trans (GX.store _ _ _)).trans (GX.store _ _ _)).trans (GX.store _ _ _)

/-- What nine cells hold. -/
structure Nine (W : World) (b : Nat) (o : OpD) (pv dv : Value) : Prop where
  c0 : W.cell? ⟨b, 0, none⟩ = some (.int .u64 o.id)
  c1 : W.cell? ⟨b, 1, none⟩ = some (.int .i64 o.kind)
  c2 : W.cell? ⟨b, 2, none⟩ = some (.string ⟨o.bucket.toArray⟩)
  c3 : W.cell? ⟨b, 3, none⟩ = some (.string ⟨o.key.toArray⟩)
  c4 : W.cell? ⟨b, 4, none⟩ = some (.string ⟨o.after.toArray⟩)
  c5 : W.cell? ⟨b, 5, none⟩ = some (.int .i64 o.n)
  c6 : W.cell? ⟨b, 6, none⟩ = some (.int .u64 o.upload)
  c7 : W.cell? ⟨b, 7, none⟩ = some pv
  c8 : W.cell? ⟨b, 8, none⟩ = some dv
  fz : ∀ j, W.frozen? ⟨b, j, none⟩ = false

theorem nine {W : World} {b : Nat} {o : OpD} {pv dv : Value} {T : TypeId} (h : W.heap[b]? = some (.cells #[.int .u64 o.id, .int .i64 o.kind, .string ⟨o.bucket.toArray⟩, .string ⟨o.key.toArray⟩, .string ⟨o.after.toArray⟩, .int .i64 o.n, .int .u64 o.upload, pv, dv] T)) : Nine W b o pv dv :=
  ⟨ck_cell h rfl, ck_cell h rfl, ck_cell h rfl, ck_cell h rfl, ck_cell h rfl, ck_cell h rfl, ck_cell h rfl, ck_cell h rfl, ck_cell h rfl, fun j => by simp [World.frozen?, h]⟩
end Go.Proofs.YtdegmpimcappjaaGreatDoor

/- The document's reader of an upload. -/
namespace Go.Proofs.YtdegmpimcappjaaGreatDoor
open Go.RowKit Go.Gl Go.Front

/-- What a reader of the document tells: an op, and whether it is one. -/
def DocPost (r : Option OpD) (w : World) (e : Ending) (w' : World) : Prop := Grow w w' ∧ ∃ o pv b, e = .returned (.tuple #[.agg (opCells o pv), .bool b]) ∧ Pv w' pv o.parts ∧ match r with
  | some o' => b = true ∧ o = o'
  | none => b = false

theorem doc_none {w w' : World} {o : OpD} {pv : Value} {r : Option OpD} (h : r = none) (hp : Pv w' pv o.parts) (hg : Grow w w') : DocPost r w (.returned (.tuple #[.agg (opCells o pv), .bool false])) w' := by
  subst h
  exact ⟨hg, o, pv, false, rfl, hp, rfl⟩
theorem doc_some {w w' : World} {o : OpD} {pv : Value} {r : Option OpD} (h : r = some o) (hp : Pv w' pv o.parts) (hg : Grow w w') : DocPost r w (.returned (.tuple #[.agg (opCells o pv), .bool true])) w' := by
  subst h
  exact ⟨hg, o, pv, true, rfl, hp, rfl, rfl⟩


theorem results_upload {w : World} {t : Array Value} {rb : Nat} {o : OpD} {pv : Value} {b : Bool} (h4 : t.getD 4 undef = .pointer (some ⟨rb, 0, none⟩)) (h5 : t.getD 5 undef = .bool b) (hW : w.heap[rb]? = some (.cells (opCells o pv) 26)) :
    (results Tryz.f112 t).run Tryz.prog w = .ok (.tuple #[.agg (opCells o pv), .bool b]) w := by
  have k0 := ck_cell (j := 0) hW rfl
  have k1 := ck_cell (j := 1) hW rfl
  have k2 := ck_cell (j := 2) hW rfl
  have k3 := ck_cell (j := 3) hW rfl
  have k4 := ck_cell (j := 4) hW rfl
  have k5 := ck_cell (j := 5) hW rfl
  have k6 := ck_cell (j := 6) hW rfl
  have k7 := ck_cell (j := 7) hW rfl
  have k8 := ck_cell (j := 8) hW rfl
  simp only [Array.getD_eq_getD_getElem?] at h4 h5
  simp [results, Tryz.results112, go_sem, h4, h5, k0, k1, k2, k3, k4, k5, k6, k7, k8]

theorem results_listing {w : World} {t : Array Value} {rb : Nat} {o : OpD} {pv : Value} {b : Bool} (h4 : t.getD 4 undef = .pointer (some ⟨rb, 0, none⟩)) (h5 : t.getD 5 undef = .bool b) (hW : w.heap[rb]? = some (.cells (opCells o pv) 26)) :
    (results Tryz.f113 t).run Tryz.prog w = .ok (.tuple #[.agg (opCells o pv), .bool b]) w := by
  have k0 := ck_cell (j := 0) hW rfl
  have k1 := ck_cell (j := 1) hW rfl
  have k2 := ck_cell (j := 2) hW rfl
  have k3 := ck_cell (j := 3) hW rfl
  have k4 := ck_cell (j := 4) hW rfl
  have k5 := ck_cell (j := 5) hW rfl
  have k6 := ck_cell (j := 6) hW rfl
  have k7 := ck_cell (j := 7) hW rfl
  have k8 := ck_cell (j := 8) hW rfl
  simp only [Array.getD_eq_getD_getElem?] at h4 h5
  simp [results, Tryz.results113, go_sem, h4, h5, k0, k1, k2, k3, k4, k5, k6, k7, k8]

theorem results_target {w : World} {t : Array Value} {rb : Nat} {o : OpD} {pv : Value} {b : Bool} (h4 : t.getD 4 undef = .pointer (some ⟨rb, 0, none⟩)) (h5 : t.getD 5 undef = .bool b) (hW : w.heap[rb]? = some (.cells (opCells o pv) 26)) :
    (results Tryz.f86 t).run Tryz.prog w = .ok (.tuple #[.agg (opCells o pv), .bool b]) w := by
  have k0 := ck_cell (j := 0) hW rfl
  have k1 := ck_cell (j := 1) hW rfl
  have k2 := ck_cell (j := 2) hW rfl
  have k3 := ck_cell (j := 3) hW rfl
  have k4 := ck_cell (j := 4) hW rfl
  have k5 := ck_cell (j := 5) hW rfl
  have k6 := ck_cell (j := 6) hW rfl
  have k7 := ck_cell (j := 7) hW rfl
  have k8 := ck_cell (j := 8) hW rfl
  simp only [Array.getD_eq_getD_getElem?] at h4 h5
  simp [results, Tryz.results86, go_sem, h4, h5, k0, k1, k2, k3, k4, k5, k6, k7, k8]

theorem alloc2 (w : World) (a b : Obj) : ((w.alloc a).alloc b).heap[w.heap.size]? = some a := by
  rw [heap_alloc_old _ _ (by simp)]
  exact heap_alloc_new _ _

set_option maxRecDepth 100000 in
set_option maxHeartbeats 8000000 in
theorem uploadR_any (how s : List UInt8) (w : World) (hs : s.length ≤ 100000) : Calls Tryz.prog 112 #[.string ⟨how.toArray⟩, .string ⟨s.toArray⟩] w (DocPost (uploadR how s) w) := by
  have hsz : (⟨s.toArray⟩ : ByteArray).size = s.length := by simp [ByteArray.size]
  by_cases h16 : s.length < 16
  · have h1 : (s.length : Int) < 16 := by omega
    have HN : Hid (uploadR how s = none) := Lib.hid (by unfold uploadR; rw [if_pos h16])
    go_enter Tryz.func112, Tryz.ntmps112
    go_wp2
    exact bodyPost_ret (results_upload (o := opZero) (pv := .slice none 0 0) rfl rfl (heap_alloc_new _ _)) rfl (doc_none HN.out (iv_nil _) (by (repeat (first | exact Below.refl _ _ | assumption | refine Below.drew ?_ | refine bDrewN ?_ | refine Below.setCell ?_ (by first | omega | (simp <;> omega)) _ | refine Below.alloc ?_ (by first | omega | (simp <;> omega)) _))))
  · have h1 : ¬ ((s.length : Int) < 16) := by omega
    have h2 : (16 : Int) ≤ (s.length : Int) := by omega
    have e1 := ext_to s 16
    have e2 := ext_from s 16
    have HX := fun W => hexedL (s.take 16) W (by rw [List.length_take]; omega)
    cases hu : unhex (s.take 16) with
    | none =>
      have HN : Hid (uploadR how s = none) := Lib.hid (by unfold uploadR; rw [if_neg h16, hu])
      rw [hu] at HX
      have HX' := Lib.hid HX
      clear HX hu
      go_enter Tryz.func112, Tryz.ntmps112
      go_wp2_with (first | (with_reducible refine (HX'.out _).mono ?_; rintro e w1 ⟨rfl, hw⟩; have hw' := hw.symm; subst hw'; clear hw; simp only [hexedV]) | go_quiet (fail))
      exact bodyPost_ret (results_upload (o := opZero) (pv := .slice none 0 0) rfl rfl (heap_alloc_new _ _)) rfl (doc_none HN.out (iv_nil _) (by (repeat (first | exact Below.refl _ _ | assumption | refine Below.drew ?_ | refine bDrewN ?_ | refine Below.setCell ?_ (by first | omega | (simp <;> omega)) _ | refine Below.alloc ?_ (by first | omega | (simp <;> omega)) _))))
    | some u =>
      have HR : Hid (uploadR how s = if how = ([68, 69, 76, 69, 84, 69] : List UInt8) ∧ s.drop 16 = [] then some { opZero with upload := u, kind := 10 }
          else if how = ([80, 85, 84] : List UInt8) ∧ 6 < (s.drop 16).length ∧ (s.drop 16).take 6 = [38, 112, 97, 114, 116, 61] then (smallR ((s.drop 16).drop 6)).map fun (n : Nat) => { opZero with upload := u, kind := 8, n := (n : Int) }
          else if how = ([80, 79, 83, 84] : List UInt8) ∧ 7 < (s.drop 16).length ∧ (s.drop 16).take 7 = [38, 112, 97, 114, 116, 115, 61] then (listedR ((s.drop 16).drop 7)).map fun l => { opZero with upload := u, kind := 9, parts := l }
          else none) := Lib.hid (by unfold uploadR; rw [if_neg h16, hu])
      rw [hu] at HX
      have HX' := Lib.hid HX
      have hrl : (s.drop 16).length ≤ 100000 := by rw [List.length_drop]; omega
      clear HX hu
      generalize s.drop 16 = reL at *
      have hrz : (⟨reL.toArray⟩ : ByteArray).size = reL.length := by simp [ByteArray.size]
      by_cases hD : how = [68, 69, 76, 69, 84, 69]
      · subst hD
        cases hq : reL with
        | nil =>
          subst hq
          have HS : Hid (uploadR [68, 69, 76, 69, 84, 69] s = some { opZero with upload := u, kind := 10 }) := Lib.hid (by rw [HR.out, if_pos ⟨rfl, rfl⟩])
          go_enter Tryz.func112, Tryz.ntmps112
          go_wp2_with (first | (with_reducible refine (HX'.out _).mono ?_; rintro e w1 ⟨rfl, hw⟩; have hw' := hw.symm; subst hw'; clear hw; simp only [hexedV]) | go_quiet (fail))
          exact bodyPost_ret (results_upload (o := { opZero with upload := u, kind := 10 }) (pv := .slice none 0 0) rfl rfl (alloc2 _ _ _)) rfl (doc_some HS.out (iv_nil _) (by (repeat (first | exact Below.refl _ _ | assumption | refine Below.drew ?_ | refine bDrewN ?_ | refine Below.setCell ?_ (by first | omega | (simp <;> omega)) _ | refine Below.alloc ?_ (by first | omega | (simp <;> omega)) _))))
        | cons c r =>
          have hem : reL.isEmpty = false := by rw [hq]; rfl
          have hne : reL ≠ [] := by rw [hq]; simp
          have HN : Hid (uploadR [68, 69, 76, 69, 84, 69] s = none) := Lib.hid (by rw [HR.out, if_neg (fun h => hne h.2), if_neg (fun h => by cases h.1), if_neg (fun h => by cases h.1)])
          clear hq hne
          go_enter Tryz.func112, Tryz.ntmps112
          go_wp2_with (first | (with_reducible refine (HX'.out _).mono ?_; rintro e w1 ⟨rfl, hw⟩; have hw' := hw.symm; subst hw'; clear hw; simp only [hexedV]) | go_quiet (fail))
          exact bodyPost_ret (results_upload (o := opZero) (pv := .slice none 0 0) rfl rfl (alloc2 _ _ _)) rfl (doc_none HN.out (iv_nil _) (by (repeat (first | exact Below.refl _ _ | assumption | refine Below.drew ?_ | refine bDrewN ?_ | refine Below.setCell ?_ (by first | omega | (simp <;> omega)) _ | refine Below.alloc ?_ (by first | omega | (simp <;> omega)) _))))
      · have d0 : (how == [68, 69, 76, 69, 84, 69]) = false := by simpa using hD
        by_cases hP : how = [80, 85, 84]
        · subst hP
          clear hD
          by_cases hl : 6 < reL.length
          · have f1 : (6 : Int) < (reL.length : Int) := by omega
            have f2 : (6 : Int) ≤ (reL.length : Int) := by omega
            have e3 := ext_to reL 6
            have e4 := ext_from reL 6
            by_cases ht : reL.take 6 = [38, 112, 97, 114, 116, 61]
            · have f3 : (reL.take 6 == [38, 112, 97, 114, 116, 61]) = true := by rw [ht]; rfl
              have HE : Hid (uploadR [80, 85, 84] s = (smallR (reL.drop 6)).map fun (n : Nat) => { opZero with upload := u, kind := 8, n := (n : Int) }) := Lib.hid (by rw [HR.out, if_neg (fun h => by cases h.1), if_pos ⟨rfl, hl, ht⟩])
              have HSm := fun W => smallL (reL.drop 6) W (by rw [List.length_drop]; omega)
              unfold SmallPost at HSm
              clear ht hl
              cases hm : smallR (reL.drop 6) with
              | none =>
                rw [hm] at HSm
                have HN : Hid (uploadR [80, 85, 84] s = none) := Lib.hid (by rw [HE.out, hm]; rfl)
                have HSm' := Lib.hid HSm
                clear HSm hm
                go_enter Tryz.func112, Tryz.ntmps112
                go_wp2_with (first | (with_reducible refine (HX'.out _).mono ?_; rintro e w1 ⟨rfl, hw⟩; have hw' := hw.symm; subst hw'; clear hw; simp only [hexedV]) | (with_reducible refine (HSm'.out _).mono ?_; rintro e w1 ⟨⟨n, _, rfl⟩, hw⟩; have hw' := hw.symm; subst hw'; clear hw) | go_quiet (fail))
                exact bodyPost_ret (results_upload (o := { opZero with upload := u, kind := 8, n := (n : Int) }) (pv := .slice none 0 0) rfl rfl (alloc2 _ _ _)) rfl (doc_none HN.out (iv_nil _) (by (repeat (first | exact Below.refl _ _ | assumption | refine Below.drew ?_ | refine bDrewN ?_ | refine Below.setCell ?_ (by first | omega | (simp <;> omega)) _ | refine Below.alloc ?_ (by first | omega | (simp <;> omega)) _))))
              | some n =>
                rw [hm] at HSm
                have HS : Hid (uploadR [80, 85, 84] s = some { opZero with upload := u, kind := 8, n := (n : Int) }) := Lib.hid (by rw [HE.out, hm]; rfl)
                have HSm' := Lib.hid HSm
                clear HSm hm
                go_enter Tryz.func112, Tryz.ntmps112
                go_wp2_with (first | (with_reducible refine (HX'.out _).mono ?_; rintro e w1 ⟨rfl, hw⟩; have hw' := hw.symm; subst hw'; clear hw; simp only [hexedV]) | (with_reducible refine (HSm'.out _).mono ?_; rintro e w1 ⟨⟨_, rfl⟩, hw⟩; have hw' := hw.symm; subst hw'; clear hw) | go_quiet (fail))
                exact bodyPost_ret (results_upload (o := { opZero with upload := u, kind := 8, n := (n : Int) }) (pv := .slice none 0 0) rfl rfl (alloc2 _ _ _)) rfl (doc_some HS.out (iv_nil _) (by (repeat (first | exact Below.refl _ _ | assumption | refine Below.drew ?_ | refine bDrewN ?_ | refine Below.setCell ?_ (by first | omega | (simp <;> omega)) _ | refine Below.alloc ?_ (by first | omega | (simp <;> omega)) _))))
            · have f3 : (reL.take 6 == [38, 112, 97, 114, 116, 61]) = false := by simpa using ht
              have HN : Hid (uploadR [80, 85, 84] s = none) := Lib.hid (by rw [HR.out, if_neg (fun h => by cases h.1), if_neg (fun h => ht h.2.2), if_neg (fun h => by cases h.1)])
              clear ht
              go_enter Tryz.func112, Tryz.ntmps112
              go_wp2_with (first | (with_reducible refine (HX'.out _).mono ?_; rintro e w1 ⟨rfl, hw⟩; have hw' := hw.symm; subst hw'; clear hw; simp only [hexedV]) | go_quiet (fail))
              exact bodyPost_ret (results_upload (o := opZero) (pv := .slice none 0 0) rfl rfl (alloc2 _ _ _)) rfl (doc_none HN.out (iv_nil _) (by (repeat (first | exact Below.refl _ _ | assumption | refine Below.drew ?_ | refine bDrewN ?_ | refine Below.setCell ?_ (by first | omega | (simp <;> omega)) _ | refine Below.alloc ?_ (by first | omega | (simp <;> omega)) _))))
          · have f1 : ¬ ((6 : Int) < (reL.length : Int)) := by omega
            have HN : Hid (uploadR [80, 85, 84] s = none) := Lib.hid (by rw [HR.out, if_neg (fun h => by cases h.1), if_neg (fun h => hl h.2.1), if_neg (fun h => by cases h.1)])
            go_enter Tryz.func112, Tryz.ntmps112
            go_wp2_with (first | (with_reducible refine (HX'.out _).mono ?_; rintro e w1 ⟨rfl, hw⟩; have hw' := hw.symm; subst hw'; clear hw; simp only [hexedV]) | go_quiet (fail))
            exact bodyPost_ret (results_upload (o := opZero) (pv := .slice none 0 0) rfl rfl (alloc2 _ _ _)) rfl (doc_none HN.out (iv_nil _) (by (repeat (first | exact Below.refl _ _ | assumption | refine Below.drew ?_ | refine bDrewN ?_ | refine Below.setCell ?_ (by first | omega | (simp <;> omega)) _ | refine Below.alloc ?_ (by first | omega | (simp <;> omega)) _))))
        · have d1 : (how == [80, 85, 84]) = false := by simpa using hP
          by_cases hQ : how = [80, 79, 83, 84]
          · subst hQ
            clear hD
            by_cases hl : 7 < reL.length
            · have f1 : (7 : Int) < (reL.length : Int) := by omega
              have f2 : (7 : Int) ≤ (reL.length : Int) := by omega
              have e3 := ext_to reL 7
              have e4 := ext_from reL 7
              by_cases ht : reL.take 7 = [38, 112, 97, 114, 116, 115, 61]
              · have f3 : (reL.take 7 == [38, 112, 97, 114, 116, 115, 61]) = true := by rw [ht]; rfl
                have HE : Hid (uploadR [80, 79, 83, 84] s = (listedR (reL.drop 7)).map fun l => { opZero with upload := u, kind := 9, parts := l }) := Lib.hid (by rw [HR.out, if_neg (fun h => by cases h.1), if_neg (fun h => by cases h.1), if_pos ⟨rfl, hl, ht⟩])
                have HLs := fun W => listed_any (reL.drop 7) W (by rw [List.length_drop]; omega)
                have HLs' := Lib.hid HLs
                clear HLs ht hl
                go_enter Tryz.func112, Tryz.ntmps112
                go_wp2_with (first | (with_reducible refine (HX'.out _).mono ?_; rintro e w1 ⟨rfl, hw⟩; have hw' := hw.symm; subst hw'; clear hw; simp only [hexedV]) | (with_reducible refine (HLs'.out _).mono ?_) | go_quiet (fail))
                have hB0 := alloc2 w (.cells (opCells opZero (.slice none 0 0)) 26) (.cells (opCells { opZero with upload := u, kind := 9 } (.slice none 0 0)) 26)
                have hB1 := heap_alloc_new (w.alloc (.cells (opCells opZero (.slice none 0 0)) 26)) (.cells (opCells { opZero with upload := u, kind := 9 } (.slice none 0 0)) 26)
                have hgw := (Grow.alloc w (.cells (opCells opZero (.slice none 0 0)) 26)).trans (Grow.alloc _ (.cells (opCells { opZero with upload := u, kind := 9 } (.slice none 0 0)) 26))
                have hsz2 : (w.alloc (.cells (opCells opZero (.slice none 0 0)) 26)).heap.size = w.heap.size + 1 := by simp
                rw [hsz2] at hB1
                clear hsz2
                change ∀ e w', LstPost (listedR (reL.drop 7)) ((w.alloc (.cells (opCells opZero (.slice none 0 0)) 26)).alloc (.cells (opCells { opZero with upload := u, kind := 9 } (.slice none 0 0)) 26)) e w' → _
                generalize (w.alloc (.cells (opCells opZero (.slice none 0 0)) 26)).alloc (.cells (opCells { opZero with upload := u, kind := 9 } (.slice none 0 0)) 26) = W2 at *
                obtain ⟨b0, Hb0⟩ : ∃ b, Hid (b = w.heap.size) := ⟨_, Lib.hid rfl⟩
                rw [← Hb0.out] at hB0 hB1 ⊢
                rintro e w3 ⟨hg3, hm⟩
                have hgw3 := hgw.trans hg3
                have hB03 := (hg3.block _ (lt_of_getElem? hB0)).trans hB0
                have hB13 := (hg3.block _ (lt_of_getElem? hB1)).trans hB1
                clear hB0 hB1 hgw hg3
                cases hls : listedR (reL.drop 7) with
                | none =>
                  rw [hls] at hm
                  subst hm
                  have HF : Hid (uploadR [80, 79, 83, 84] s = none) := Lib.hid (by rw [HE.out, hls]; rfl)
                  have hpv := iv_nil w3
                  clear hls
                  have x7 : w3.cell? ⟨b0 + 1, 7, none⟩ = some (.slice none 0 0) := ck_cell hB13 rfl
                  have z7 : w3.frozen? ⟨b0 + 1, 7, none⟩ = false := by simp [World.frozen?, hB13]
                  have hB14 : (w3.setCell ⟨b0 + 1, 7, none⟩ (.slice none 0 0)).heap[b0 + 1]? = some (.cells (opCells { opZero with upload := u, kind := 9 } (.slice none 0 0)) 26) := setCell_heap hB13 7 _
                  have hB04 : (w3.setCell ⟨b0 + 1, 7, none⟩ (.slice none 0 0)).heap[b0]? = some (.cells (opCells opZero (.slice none 0 0)) 26) := (Below.heap_setCell w3 ⟨b0 + 1, 7, none⟩ _ b0 (Nat.ne_of_lt (Nat.lt_succ_self b0))).trans hB03
                  have hpv4 := pv_store hpv hB13 (by decide) 7 (.slice none 0 0)
                  have hgw4 : Grow w (w3.setCell ⟨b0 + 1, 7, none⟩ (.slice none 0 0)) := hgw3.setCell (show w.heap.size ≤ b0 + 1 from Nat.le_trans (Nat.le_of_eq Hb0.out.symm) (Nat.le_succ _)) _
                  go_upto_region 18 with fail
                  generalize w3.setCell ⟨b0 + 1, 7, none⟩ (.slice none 0 0) = W4 at *
                  obtain ⟨a0, a1, a2, a3, a4, a5, a6, a7, a8, a9⟩ := nine hB14
                  obtain ⟨c0, c1, c2, c3, c4, c5, c6, c7, c8, c9⟩ := nine hB04
                  have Hend := Lib.hid (And.intro hB04 (And.intro hpv4 hgw4))
                  clear x7 z7 hB14 hB04 hpv4 hgw4 hpv hgw3 hB03 hB13
                  go_wp2
                  exact bodyPost_ret (results_upload (o := { opZero with upload := u, kind := 9, parts := [] }) (pv := .slice none 0 0) rfl rfl (put9_heap Hend.out.1 _ _ _ _ _ _ _ _ _)) rfl (doc_none HF.out (iv_nil _) (put9_below Hend.out.2.2 (Nat.le_of_eq Hb0.out.symm) _ _ _ _ _ _ _ _ _))
                | some l =>
                  rw [hls] at hm
                  obtain ⟨pv, rfl, hpv⟩ := hm
                  have HF : Hid (uploadR [80, 79, 83, 84] s = some { opZero with upload := u, kind := 9, parts := l }) := Lib.hid (by rw [HE.out, hls]; rfl)
                  obtain ⟨ba, bc, rfl⟩ := OwnI.slice' hpv
                  clear hls
                  have x7 : w3.cell? ⟨b0 + 1, 7, none⟩ = some (.slice none 0 0) := ck_cell hB13 rfl
                  have z7 : w3.frozen? ⟨b0 + 1, 7, none⟩ = false := by simp [World.frozen?, hB13]
                  have hB14 : (w3.setCell ⟨b0 + 1, 7, none⟩ (.slice ba l.length bc)).heap[b0 + 1]? = some (.cells (opCells { opZero with upload := u, kind := 9 } (.slice ba l.length bc)) 26) := setCell_heap hB13 7 _
                  have hB04 : (w3.setCell ⟨b0 + 1, 7, none⟩ (.slice ba l.length bc)).heap[b0]? = some (.cells (opCells opZero (.slice none 0 0)) 26) := (Below.heap_setCell w3 ⟨b0 + 1, 7, none⟩ _ b0 (Nat.ne_of_lt (Nat.lt_succ_self b0))).trans hB03
                  have hpv4 := pv_store hpv hB13 (by decide) 7 (.slice ba l.length bc)
                  have hgw4 : Grow w (w3.setCell ⟨b0 + 1, 7, none⟩ (.slice ba l.length bc)) := hgw3.setCell (show w.heap.size ≤ b0 + 1 from Nat.le_trans (Nat.le_of_eq Hb0.out.symm) (Nat.le_succ _)) _
                  go_upto_region 18 with fail
                  generalize w3.setCell ⟨b0 + 1, 7, none⟩ (.slice ba l.length bc) = W4 at *
                  obtain ⟨a0, a1, a2, a3, a4, a5, a6, a7, a8, a9⟩ := nine hB14
                  obtain ⟨c0, c1, c2, c3, c4, c5, c6, c7, c8, c9⟩ := nine hB04
                  have Hend := Lib.hid (And.intro hB04 (And.intro hpv4 hgw4))
                  clear x7 z7 hB14 hB04 hpv4 hgw4 hpv hgw3 hB03 hB13
                  go_wp2
                  exact bodyPost_ret (results_upload (o := { opZero with upload := u, kind := 9, parts := l }) (pv := .slice ba l.length bc) rfl rfl (put9_heap Hend.out.1 _ _ _ _ _ _ _ _ _)) rfl (doc_some HF.out (put9_pv Hend.out.2.1 Hend.out.1 (by decide) _ _ _ _ _ _ _ _ _) (put9_below Hend.out.2.2 (Nat.le_of_eq Hb0.out.symm) _ _ _ _ _ _ _ _ _))
              · have f3 : (reL.take 7 == [38, 112, 97, 114, 116, 115, 61]) = false := by simpa using ht
                have HN : Hid (uploadR [80, 79, 83, 84] s = none) := Lib.hid (by rw [HR.out, if_neg (fun h => by cases h.1), if_neg (fun h => by cases h.1), if_neg (fun h => ht h.2.2)])
                clear ht
                go_enter Tryz.func112, Tryz.ntmps112
                go_wp2_with (first | (with_reducible refine (HX'.out _).mono ?_; rintro e w1 ⟨rfl, hw⟩; have hw' := hw.symm; subst hw'; clear hw; simp only [hexedV]) | go_quiet (fail))
                exact bodyPost_ret (results_upload (o := opZero) (pv := .slice none 0 0) rfl rfl (alloc2 _ _ _)) rfl (doc_none HN.out (iv_nil _) (by (repeat (first | exact Below.refl _ _ | assumption | refine Below.drew ?_ | refine bDrewN ?_ | refine Below.setCell ?_ (by first | omega | (simp <;> omega)) _ | refine Below.alloc ?_ (by first | omega | (simp <;> omega)) _))))
            · have f1 : ¬ ((7 : Int) < (reL.length : Int)) := by omega
              have HN : Hid (uploadR [80, 79, 83, 84] s = none) := Lib.hid (by rw [HR.out, if_neg (fun h => by cases h.1), if_neg (fun h => by cases h.1), if_neg (fun h => hl h.2.1)])
              go_enter Tryz.func112, Tryz.ntmps112
              go_wp2_with (first | (with_reducible refine (HX'.out _).mono ?_; rintro e w1 ⟨rfl, hw⟩; have hw' := hw.symm; subst hw'; clear hw; simp only [hexedV]) | go_quiet (fail))
              exact bodyPost_ret (results_upload (o := opZero) (pv := .slice none 0 0) rfl rfl (alloc2 _ _ _)) rfl (doc_none HN.out (iv_nil _) (by (repeat (first | exact Below.refl _ _ | assumption | refine Below.drew ?_ | refine bDrewN ?_ | refine Below.setCell ?_ (by first | omega | (simp <;> omega)) _ | refine Below.alloc ?_ (by first | omega | (simp <;> omega)) _))))
          · have d2 : (how == [80, 79, 83, 84]) = false := by simpa using hQ
            have HN : Hid (uploadR how s = none) := Lib.hid (by rw [HR.out, if_neg (fun h => hD h.1), if_neg (fun h => hP h.1), if_neg (fun h => hQ h.1)])
            clear hD hP hQ
            go_enter Tryz.func112, Tryz.ntmps112
            go_wp2_with (first | (with_reducible refine (HX'.out _).mono ?_; rintro e w1 ⟨rfl, hw⟩; have hw' := hw.symm; subst hw'; clear hw; simp only [hexedV]) | go_quiet (fail))
            exact bodyPost_ret (results_upload (o := opZero) (pv := .slice none 0 0) rfl rfl (alloc2 _ _ _)) rfl (doc_none HN.out (iv_nil _) (by (repeat (first | exact Below.refl _ _ | assumption | refine Below.drew ?_ | refine bDrewN ?_ | refine Below.setCell ?_ (by first | omega | (simp <;> omega)) _ | refine Below.alloc ?_ (by first | omega | (simp <;> omega)) _))))
end Go.Proofs.YtdegmpimcappjaaGreatDoor

/- The document's reader of a listing. -/
namespace Go.Proofs.YtdegmpimcappjaaGreatDoor
open Go.RowKit Go.Gl Go.Front

theorem une_bits (s : List UInt8) : ∃ (k : List UInt8) (b : Bool), uneV (unesc s) = .tuple #[.string ⟨k.toArray⟩, .bool b] ∧ unesc s = if b = true then some k else none := by
  cases h : unesc s with
  | none => exact ⟨[], false, rfl, rfl⟩
  | some k => exact ⟨k, true, rfl, rfl⟩

theorem small_bits {s : List UInt8} {e : Ending} (h : SmallPost s e) : ∃ (n : Nat) (b : Bool), e = .returned (.tuple #[.int .i64 n, .bool b]) ∧ smallR s = if b = true then some n else none := by
  unfold SmallPost at h
  cases hm : smallR s with
  | none =>
    rw [hm] at h
    obtain ⟨n, _, rfl⟩ := h
    exact ⟨n, false, rfl, rfl⟩
  | some n =>
    rw [hm] at h
    obtain ⟨_, rfl⟩ := h
    exact ⟨n, true, rfl, rfl⟩

theorem unescapeL (s : List UInt8) (w : World) (hs : s.length ≤ 1000000) : Calls Tryz.prog 18 #[.string ⟨s.toArray⟩] w fun e w' => e = .returned (uneV (unesc s)) ∧ Grow w w' :=
  unescapeR_any ⟨s.toArray⟩ w (by show s.toArray.size ≤ _; simp; omega)

set_option maxRecDepth 100000 in
set_option maxHeartbeats 8000000 in
theorem listing_any (b s : List UInt8) (w : World) (hs : s.length ≤ 100000) : Calls Tryz.prog 113 #[.string ⟨b.toArray⟩, .string ⟨s.toArray⟩] w (DocPost (listingR b s) w) := by
  have e1 : (⟨#[33]⟩ : ByteArray) ++ ⟨s.toArray⟩ = ⟨(33 :: s).toArray⟩ := ba_append [33] s
  have z1 : ¬ (9223372036854775807 < 1 + s.length) := by omega
  have hsz : (⟨s.toArray⟩ : ByteArray).size = s.length := by simp [ByteArray.size]
  have HU1 := Lib.hid (fun W => until_any (33 :: s) [33, 112, 114, 101, 102, 105, 120, 61] W (by simp; omega) (by simp))
  have HR : Hid (listingR b s = listingR b s) := Lib.hid rfl
  go_enter Tryz.func113, Tryz.ntmps113
  go_upto_region 2 with fail
  have hB0 : ((w.alloc (.cells #[.int .u64 0, .int .i64 0, .string ⟨#[]⟩, .string ⟨#[]⟩, .string ⟨#[]⟩, .int .i64 0, .int .u64 0, .slice none 0 0, .slice none 0 0] 26)).alloc (.cells #[.int .u64 0, .int .i64 6, .string ⟨b.toArray⟩, .string ⟨#[]⟩, .string ⟨#[]⟩, .int .i64 0, .int .u64 0, .slice none 0 0, .slice none 0 0] 26)).heap[w.heap.size]? = some (.cells (opCells opZero (.slice none 0 0)) 26) := alloc2 w _ _
  have hB1 : ((w.alloc (.cells #[.int .u64 0, .int .i64 0, .string ⟨#[]⟩, .string ⟨#[]⟩, .string ⟨#[]⟩, .int .i64 0, .int .u64 0, .slice none 0 0, .slice none 0 0] 26)).alloc (.cells #[.int .u64 0, .int .i64 6, .string ⟨b.toArray⟩, .string ⟨#[]⟩, .string ⟨#[]⟩, .int .i64 0, .int .u64 0, .slice none 0 0, .slice none 0 0] 26)).heap[w.heap.size + 1]? = some (.cells (opCells { opZero with kind := 6, bucket := b } (.slice none 0 0)) 26) := by
    have h := heap_alloc_new (w.alloc (.cells #[.int .u64 0, .int .i64 0, .string ⟨#[]⟩, .string ⟨#[]⟩, .string ⟨#[]⟩, .int .i64 0, .int .u64 0, .slice none 0 0, .slice none 0 0] 26)) (.cells #[.int .u64 0, .int .i64 6, .string ⟨b.toArray⟩, .string ⟨#[]⟩, .string ⟨#[]⟩, .int .i64 0, .int .u64 0, .slice none 0 0, .slice none 0 0] 26)
    have hsz2 : (w.alloc (.cells #[.int .u64 0, .int .i64 0, .string ⟨#[]⟩, .string ⟨#[]⟩, .string ⟨#[]⟩, .int .i64 0, .int .u64 0, .slice none 0 0, .slice none 0 0] 26)).heap.size = w.heap.size + 1 := by simp
    rw [hsz2] at h
    exact h
  have hgw : Grow w ((w.alloc (.cells #[.int .u64 0, .int .i64 0, .string ⟨#[]⟩, .string ⟨#[]⟩, .string ⟨#[]⟩, .int .i64 0, .int .u64 0, .slice none 0 0, .slice none 0 0] 26)).alloc (.cells #[.int .u64 0, .int .i64 6, .string ⟨b.toArray⟩, .string ⟨#[]⟩, .string ⟨#[]⟩, .int .i64 0, .int .u64 0, .slice none 0 0, .slice none 0 0] 26)) := (Grow.alloc w _).trans (Grow.alloc _ _)
  generalize (w.alloc (.cells #[.int .u64 0, .int .i64 0, .string ⟨#[]⟩, .string ⟨#[]⟩, .string ⟨#[]⟩, .int .i64 0, .int .u64 0, .slice none 0 0, .slice none 0 0] 26)).alloc (.cells #[.int .u64 0, .int .i64 6, .string ⟨b.toArray⟩, .string ⟨#[]⟩, .string ⟨#[]⟩, .int .i64 0, .int .u64 0, .slice none 0 0, .slice none 0 0] 26) = W2 at *
  obtain ⟨b0, Hb0⟩ : ∃ b, Hid (b = w.heap.size) := ⟨_, Lib.hid rfl⟩
  rw [← Hb0.out] at hB0 hB1 ⊢
  cases hu : untilR (33 :: s) [33, 112, 114, 101, 102, 105, 120, 61] with
  | none =>
    have HN : Hid (listingR b s = none) := Lib.hid (by unfold listingR; rw [hu])
    have Hu := Lib.hid hu
    clear hu
    go_wp2_with fail
    (with_reducible refine (HU1.out _).mono ?_)
    rintro e w3 ⟨he, hg⟩
    rw [Hu.out] at he
    have he' : e = .returned (.tuple #[.string ⟨#[]⟩, .string ⟨#[]⟩, .bool false]) := he
    subst he'
    clear he
    replace hB0 := (hg.block _ (lt_of_getElem? hB0)).trans hB0
    replace hB1 := (hg.block _ (lt_of_getElem? hB1)).trans hB1
    replace hgw := hgw.trans hg
    clear hg
    obtain ⟨c0, c1, c2, c3, c4, c5, c6, c7, c8, c9⟩ := nine hB0
    have Hend := Lib.hid (And.intro hB0 hgw)
    clear hB0 hB1 hgw
    go_wp2
    exact bodyPost_ret (results_listing (o := opZero) (pv := .slice none 0 0) rfl rfl (put9_heap Hend.out.1 _ _ _ _ _ _ _ _ _)) rfl (doc_none HN.out (iv_nil _) (put9_below Hend.out.2 (Nat.le_of_eq Hb0.out.symm) _ _ _ _ _ _ _ _ _))
  | some xy =>
    obtain ⟨x1, s1⟩ := xy
    have hlw3 := untilR_len hu
    rw [List.length_cons] at hlw3
    have HR1 : Hid (listingR b s = match untilR s1 [38, 97, 102, 116, 101, 114, 61] with
        | none => none
        | some (p, s) => match untilR s [38, 110, 61] with
          | none => none
          | some (a, n) => match unesc p, unesc a, smallR n with
            | some k, some a, some n => some { opZero with kind := 6, bucket := b, key := k, after := a, n := (n : Int) }
            | _, _, _ => none) := Lib.hid (by unfold listingR; rw [hu]; rfl)
    have Hu := Lib.hid hu
    clear hu
    go_wp2_with fail
    (with_reducible refine (HU1.out _).mono ?_)
    rintro e w3 ⟨he, hg⟩
    rw [Hu.out] at he
    have he' : e = .returned (.tuple #[.string ⟨x1.toArray⟩, .string ⟨s1.toArray⟩, .bool true]) := he
    subst he'
    clear he
    replace hB0 := (hg.block _ (lt_of_getElem? hB0)).trans hB0
    replace hB1 := (hg.block _ (lt_of_getElem? hB1)).trans hB1
    replace hgw := hgw.trans hg
    clear hg
    have HU2 := Lib.hid (fun W => until_any s1 [38, 97, 102, 116, 101, 114, 61] W (by omega) (by simp))
    cases hu : untilR s1 [38, 97, 102, 116, 101, 114, 61] with
    | none =>
      have HN : Hid (listingR b s = none) := Lib.hid (by rw [HR1.out]; rw [hu])
      have Hu := Lib.hid hu
      clear hu
      go_wp2_with fail
      (with_reducible refine (HU2.out _).mono ?_)
      rintro e w4 ⟨he, hg⟩
      rw [Hu.out] at he
      have he' : e = .returned (.tuple #[.string ⟨#[]⟩, .string ⟨#[]⟩, .bool false]) := he
      subst he'
      clear he
      replace hB0 := (hg.block _ (lt_of_getElem? hB0)).trans hB0
      replace hB1 := (hg.block _ (lt_of_getElem? hB1)).trans hB1
      replace hgw := hgw.trans hg
      clear hg
      obtain ⟨c0, c1, c2, c3, c4, c5, c6, c7, c8, c9⟩ := nine hB0
      have Hend := Lib.hid (And.intro hB0 hgw)
      clear hB0 hB1 hgw
      go_wp2
      exact bodyPost_ret (results_listing (o := opZero) (pv := .slice none 0 0) rfl rfl (put9_heap Hend.out.1 _ _ _ _ _ _ _ _ _)) rfl (doc_none HN.out (iv_nil _) (put9_below Hend.out.2 (Nat.le_of_eq Hb0.out.symm) _ _ _ _ _ _ _ _ _))
    | some xy =>
      obtain ⟨pp, s2⟩ := xy
      have hlw4 := untilR_len hu
      have HR2 : Hid (listingR b s = match untilR s2 [38, 110, 61] with
            | none => none
            | some (a, n) => match unesc pp, unesc a, smallR n with
              | some k, some a, some n => some { opZero with kind := 6, bucket := b, key := k, after := a, n := (n : Int) }
              | _, _, _ => none) := Lib.hid (by rw [HR1.out, hu])
      have Hu := Lib.hid hu
      clear hu
      go_wp2_with fail
      (with_reducible refine (HU2.out _).mono ?_)
      rintro e w4 ⟨he, hg⟩
      rw [Hu.out] at he
      have he' : e = .returned (.tuple #[.string ⟨pp.toArray⟩, .string ⟨s2.toArray⟩, .bool true]) := he
      subst he'
      clear he
      replace hB0 := (hg.block _ (lt_of_getElem? hB0)).trans hB0
      replace hB1 := (hg.block _ (lt_of_getElem? hB1)).trans hB1
      replace hgw := hgw.trans hg
      clear hg
      have HU3 := Lib.hid (fun W => until_any s2 [38, 110, 61] W (by omega) (by simp))
      cases hu : untilR s2 [38, 110, 61] with
      | none =>
        have HN : Hid (listingR b s = none) := Lib.hid (by rw [HR2.out]; rw [hu])
        have Hu := Lib.hid hu
        clear hu
        go_wp2_with fail
        (with_reducible refine (HU3.out _).mono ?_)
        rintro e w5 ⟨he, hg⟩
        rw [Hu.out] at he
        have he' : e = .returned (.tuple #[.string ⟨#[]⟩, .string ⟨#[]⟩, .bool false]) := he
        subst he'
        clear he
        replace hB0 := (hg.block _ (lt_of_getElem? hB0)).trans hB0
        replace hB1 := (hg.block _ (lt_of_getElem? hB1)).trans hB1
        replace hgw := hgw.trans hg
        clear hg
        obtain ⟨c0, c1, c2, c3, c4, c5, c6, c7, c8, c9⟩ := nine hB0
        have Hend := Lib.hid (And.intro hB0 hgw)
        clear hB0 hB1 hgw
        go_wp2
        exact bodyPost_ret (results_listing (o := opZero) (pv := .slice none 0 0) rfl rfl (put9_heap Hend.out.1 _ _ _ _ _ _ _ _ _)) rfl (doc_none HN.out (iv_nil _) (put9_below Hend.out.2 (Nat.le_of_eq Hb0.out.symm) _ _ _ _ _ _ _ _ _))
      | some xy =>
        obtain ⟨aa, nn⟩ := xy
        have hlw5 := untilR_len hu
        have HR3 : Hid (listingR b s = match unesc pp, unesc aa, smallR nn with
                | some k, some a, some n => some { opZero with kind := 6, bucket := b, key := k, after := a, n := (n : Int) }
                | _, _, _ => none) := Lib.hid (by rw [HR2.out, hu])
        have Hu := Lib.hid hu
        clear hu
        go_wp2_with fail
        (with_reducible refine (HU3.out _).mono ?_)
        rintro e w5 ⟨he, hg⟩
        rw [Hu.out] at he
        have he' : e = .returned (.tuple #[.string ⟨aa.toArray⟩, .string ⟨nn.toArray⟩, .bool true]) := he
        subst he'
        clear he
        replace hB0 := (hg.block _ (lt_of_getElem? hB0)).trans hB0
        replace hB1 := (hg.block _ (lt_of_getElem? hB1)).trans hB1
        replace hgw := hgw.trans hg
        clear hg
        obtain ⟨kk, bk, hvkk, hqkk⟩ := une_bits pp
        have HEkk := Lib.hid (fun W => unescapeL pp W (by omega))
        rw [hvkk] at HEkk
        have Hqkk := Lib.hid hqkk
        clear hvkk hqkk
        go_wp2_with fail
        (with_reducible refine (HEkk.out _).mono ?_)
        rintro e w6 ⟨rfl, hg⟩
        replace hB0 := (hg.block _ (lt_of_getElem? hB0)).trans hB0
        replace hB1 := (hg.block _ (lt_of_getElem? hB1)).trans hB1
        replace hgw := hgw.trans hg
        clear hg
        have xc : w6.cell? ⟨b0 + 1, 3, none⟩ = some (.string ⟨#[]⟩) := ck_cell hB1 rfl
        have xf : w6.frozen? ⟨b0 + 1, 3, none⟩ = false := by simp [World.frozen?, hB1]
        have hB1n : (w6.setCell ⟨b0 + 1, 3, none⟩ (.string ⟨kk.toArray⟩)).heap[b0 + 1]? = some (.cells (opCells { opZero with kind := 6, bucket := b, key := kk } (.slice none 0 0)) 26) := setCell_heap hB1 3 _
        have hB0n : (w6.setCell ⟨b0 + 1, 3, none⟩ (.string ⟨kk.toArray⟩)).heap[b0]? = some (.cells (opCells opZero (.slice none 0 0)) 26) := (Below.heap_setCell w6 ⟨b0 + 1, 3, none⟩ _ b0 (Nat.ne_of_lt (Nat.lt_succ_self b0))).trans hB0
        have hgwn : Grow w (w6.setCell ⟨b0 + 1, 3, none⟩ (.string ⟨kk.toArray⟩)) := hgw.setCell (show w.heap.size ≤ b0 + 1 from Nat.le_trans (Nat.le_of_eq Hb0.out.symm) (Nat.le_succ _)) _
        clear hB0 hB1 hgw
        go_upto_region 12 with fail
        generalize w6.setCell ⟨b0 + 1, 3, none⟩ (.string ⟨kk.toArray⟩) = W6 at *
        clear xc xf
        have hB0 := hB0n
        have hB1 := hB1n
        have hgw := hgwn
        clear hB0n hB1n hgwn
        obtain ⟨ak, ba, hvak, hqak⟩ := une_bits aa
        have HEak := Lib.hid (fun W => unescapeL aa W (by omega))
        rw [hvak] at HEak
        have Hqak := Lib.hid hqak
        clear hvak hqak
        go_wp2_with fail
        (with_reducible refine (HEak.out _).mono ?_)
        rintro e w7 ⟨rfl, hg⟩
        replace hB0 := (hg.block _ (lt_of_getElem? hB0)).trans hB0
        replace hB1 := (hg.block _ (lt_of_getElem? hB1)).trans hB1
        replace hgw := hgw.trans hg
        clear hg
        have xc : w7.cell? ⟨b0 + 1, 4, none⟩ = some (.string ⟨#[]⟩) := ck_cell hB1 rfl
        have xf : w7.frozen? ⟨b0 + 1, 4, none⟩ = false := by simp [World.frozen?, hB1]
        have hB1n : (w7.setCell ⟨b0 + 1, 4, none⟩ (.string ⟨ak.toArray⟩)).heap[b0 + 1]? = some (.cells (opCells { opZero with kind := 6, bucket := b, key := kk, after := ak } (.slice none 0 0)) 26) := setCell_heap hB1 4 _
        have hB0n : (w7.setCell ⟨b0 + 1, 4, none⟩ (.string ⟨ak.toArray⟩)).heap[b0]? = some (.cells (opCells opZero (.slice none 0 0)) 26) := (Below.heap_setCell w7 ⟨b0 + 1, 4, none⟩ _ b0 (Nat.ne_of_lt (Nat.lt_succ_self b0))).trans hB0
        have hgwn : Grow w (w7.setCell ⟨b0 + 1, 4, none⟩ (.string ⟨ak.toArray⟩)) := hgw.setCell (show w.heap.size ≤ b0 + 1 from Nat.le_trans (Nat.le_of_eq Hb0.out.symm) (Nat.le_succ _)) _
        clear hB0 hB1 hgw
        go_upto_region 13 with fail
        generalize w7.setCell ⟨b0 + 1, 4, none⟩ (.string ⟨ak.toArray⟩) = W7 at *
        clear xc xf
        have hB0 := hB0n
        have hB1 := hB1n
        have hgw := hgwn
        clear hB0n hB1n hgwn
        have HS := Lib.hid (fun W => smallL nn W (by omega))
        go_wp2_with fail
        (with_reducible refine (HS.out _).mono ?_)
        rintro e w8 ⟨he, hw⟩
        have hw' := hw.symm
        subst hw'
        clear hw
        obtain ⟨n, bn, rfl, hqn⟩ := small_bits he
        have Hqn := Lib.hid hqn
        clear he hqn
        have xc : W7.cell? ⟨b0 + 1, 5, none⟩ = some (.int .i64 0) := ck_cell hB1 rfl
        have xf : W7.frozen? ⟨b0 + 1, 5, none⟩ = false := by simp [World.frozen?, hB1]
        have hB1n : (W7.setCell ⟨b0 + 1, 5, none⟩ (.int .i64 n)).heap[b0 + 1]? = some (.cells (opCells { opZero with kind := 6, bucket := b, key := kk, after := ak, n := (n : Int) } (.slice none 0 0)) 26) := setCell_heap hB1 5 _
        have hB0n : (W7.setCell ⟨b0 + 1, 5, none⟩ (.int .i64 n)).heap[b0]? = some (.cells (opCells opZero (.slice none 0 0)) 26) := (Below.heap_setCell W7 ⟨b0 + 1, 5, none⟩ _ b0 (Nat.ne_of_lt (Nat.lt_succ_self b0))).trans hB0
        have hgwn : Grow w (W7.setCell ⟨b0 + 1, 5, none⟩ (.int .i64 n)) := hgw.setCell (show w.heap.size ≤ b0 + 1 from Nat.le_trans (Nat.le_of_eq Hb0.out.symm) (Nat.le_succ _)) _
        clear hB0 hB1 hgw
        go_upto_region 15 with fail
        generalize W7.setCell ⟨b0 + 1, 5, none⟩ (.int .i64 n) = W8 at *
        clear xc xf
        have hB0 := hB0n
        have hB1 := hB1n
        have hgw := hgwn
        clear hB0n hB1n hgwn
        obtain ⟨a0, a1, a2, a3, a4, a5, a6, a7, a8, a9⟩ := nine hB1
        obtain ⟨c0, c1, c2, c3, c4, c5, c6, c7, c8, c9⟩ := nine hB0
        have Hend := Lib.hid (And.intro hB0 hgw)
        clear hB0 hB1 hgw
        have HF : Hid (listingR b s = if (bk && ba && bn) = true then some { opZero with kind := 6, bucket := b, key := kk, after := ak, n := (n : Int) } else none) := Lib.hid (by
          rw [HR3.out, Hqkk.out, Hqak.out, Hqn.out]
          cases bk <;> cases ba <;> cases bn <;> rfl)
        cases bk with
        | false =>
          go_wp2
          exact bodyPost_ret (results_listing (o := { opZero with kind := 6, bucket := b, key := kk, after := ak, n := (n : Int) }) (pv := .slice none 0 0) rfl rfl (put9_heap Hend.out.1 _ _ _ _ _ _ _ _ _)) rfl (doc_none (by rw [HF.out]; rfl) (iv_nil _) (put9_below Hend.out.2 (Nat.le_of_eq Hb0.out.symm) _ _ _ _ _ _ _ _ _))
        | true =>
          cases ba with
          | false =>
            go_wp2
            exact bodyPost_ret (results_listing (o := { opZero with kind := 6, bucket := b, key := kk, after := ak, n := (n : Int) }) (pv := .slice none 0 0) rfl rfl (put9_heap Hend.out.1 _ _ _ _ _ _ _ _ _)) rfl (doc_none (by rw [HF.out]; rfl) (iv_nil _) (put9_below Hend.out.2 (Nat.le_of_eq Hb0.out.symm) _ _ _ _ _ _ _ _ _))
          | true =>
            cases bn with
            | false =>
              go_wp2
              exact bodyPost_ret (results_listing (o := { opZero with kind := 6, bucket := b, key := kk, after := ak, n := (n : Int) }) (pv := .slice none 0 0) rfl rfl (put9_heap Hend.out.1 _ _ _ _ _ _ _ _ _)) rfl (doc_none (by rw [HF.out]; rfl) (iv_nil _) (put9_below Hend.out.2 (Nat.le_of_eq Hb0.out.symm) _ _ _ _ _ _ _ _ _))
            | true =>
              go_wp2
              exact bodyPost_ret (results_listing (o := { opZero with kind := 6, bucket := b, key := kk, after := ak, n := (n : Int) }) (pv := .slice none 0 0) rfl rfl (put9_heap Hend.out.1 _ _ _ _ _ _ _ _ _)) rfl (doc_some (by rw [HF.out]; rfl) (iv_nil _) (put9_below Hend.out.2 (Nat.le_of_eq Hb0.out.symm) _ _ _ _ _ _ _ _ _))
end Go.Proofs.YtdegmpimcappjaaGreatDoor

/- The document's reader of a target. -/
namespace Go.Proofs.YtdegmpimcappjaaGreatDoor
open Go.RowKit Go.Gl Go.Front

theorem until_bits (s sep : List UInt8) : ∃ (x y : List UInt8) (i : Bool), untV (untilR s sep) = .tuple #[.string ⟨x.toArray⟩, .string ⟨y.toArray⟩, .bool i] ∧ (untilR s sep = if i = true then some (x, y) else none) ∧ x.length ≤ s.length ∧ y.length ≤ s.length := by
  cases h : untilR s sep with
  | none => exact ⟨[], [], false, rfl, rfl, by simp, by simp⟩
  | some xy =>
    obtain ⟨x, y⟩ := xy
    have := untilR_len h
    exact ⟨x, y, true, rfl, rfl, this.1, this.2⟩

theorem byte_ne (c : UInt8) (k : Nat) (hk : k < 256) : ((c.toNat : Int) != (k : Int)) = !(c == UInt8.ofNat k) := by
  have : ((c.toNat : Int) == (k : Int)) = (c == UInt8.ofNat k) := by
    rw [Bool.eq_iff_iff, beq_iff_eq, beq_iff_eq]
    constructor
    · intro e
      apply UInt8.toNat_inj.1
      rw [UInt8.toNat_ofNat_of_lt' hk]
      omega
    · intro e
      rw [e, UInt8.toNat_ofNat_of_lt' hk]
  rw [bne, this]

theorem targetR_nil (how : List UInt8) : targetR how [] = none := rfl
theorem targetR_no {how r : List UInt8} {c : UInt8} (hc : c ≠ 47) : targetR how (c :: r) = none := by
  unfold targetR
  rw [if_neg (fun h => hc (by have h2 := h.2; rw [List.take_succ_cons] at h2; exact (List.cons.inj h2).1)), if_pos (by simpa using hc)]

/-- Behind the slash. -/
def slashR (how r : List UInt8) : Option OpD := match (if how = ([71, 69, 84] : List UInt8) then untilR r [63] else none) with
  | some (b, rest) => listingR b rest
  | none => match untilR r [47] with
    | none => if how = ([80, 85, 84] : List UInt8) then some { opZero with kind := 1, bucket := r } else if how = ([68, 69, 76, 69, 84, 69] : List UInt8) then some { opZero with kind := 2, bucket := r } else none
    | some (b, rest) => match unesc rest with
      | none => none
      | some k => if kindK how = 0 then none else some { opZero with bucket := b, key := k, kind := kindK how }

theorem targetR_slash {how r : List UInt8} (h : ¬ (9 < (47 :: r).length ∧ (47 :: r).take 9 = [47, 63, 117, 112, 108, 111, 97, 100, 61])) : targetR how (47 :: r) = slashR how r := by
  unfold targetR
  rw [if_neg h, if_neg (by simp)]
  rfl

set_option maxRecDepth 100000 in
set_option maxHeartbeats 16000000 in
theorem targetD_any (how s : List UInt8) (w : World) (hs : s.length ≤ 90000) : Calls Tryz.prog 86 #[.string ⟨how.toArray⟩, .string ⟨s.toArray⟩] w (DocPost (targetR how s) w) := by
  have hsz : (⟨s.toArray⟩ : ByteArray).size = s.length := by simp [ByteArray.size]
  have e9 := ext_to s 9
  have hB0 : (w.alloc (.cells #[.int .u64 0, .int .i64 0, .string ⟨#[]⟩, .string ⟨#[]⟩, .string ⟨#[]⟩, .int .i64 0, .int .u64 0, .slice none 0 0, .slice none 0 0] 26)).heap[w.heap.size]? = some (.cells (opCells opZero (.slice none 0 0)) 26) := heap_alloc_new _ _
  have hgw : Grow w (w.alloc (.cells #[.int .u64 0, .int .i64 0, .string ⟨#[]⟩, .string ⟨#[]⟩, .string ⟨#[]⟩, .int .i64 0, .int .u64 0, .slice none 0 0, .slice none 0 0] 26)) := Grow.alloc _ _
  by_cases hup : 9 < s.length ∧ s.take 9 = [47, 63, 117, 112, 108, 111, 97, 100, 61]
  · have HT : Hid (targetR how s = uploadR how (s.drop 9)) := Lib.hid (by unfold targetR; rw [if_pos hup])
    have f1 : (9 : Int) < (s.length : Int) := by omega
    have f2 : (9 : Int) ≤ (s.length : Int) := by omega
    have f3 : (s.take 9 == [47, 63, 117, 112, 108, 111, 97, 100, 61]) = true := by rw [hup.2]; rfl
    have e10 := ext_from s 9
    have HUp := Lib.hid (fun W => uploadR_any how (s.drop 9) W (by rw [List.length_drop]; omega))
    have HB0 := Lib.hid hB0
    have Hgw := Lib.hid hgw
    clear hup hB0 hgw
    go_enter Tryz.func86, Tryz.ntmps86
    go_wp2_with (first | (with_reducible refine (HUp.out _).mono ?_) | go_quiet (fail))
    rintro e w3 ⟨hg, o, pv, bb, rfl, hpv, hm⟩
    have hB3 := (hg.block _ (lt_of_getElem? HB0.out)).trans HB0.out
    have hgw3 := Hgw.out.trans hg
    obtain ⟨ba, bc, rfl⟩ := OwnI.slice' hpv
    obtain ⟨oi, ok, ob, oy, oa, on, ou, ol, od⟩ := o
    obtain ⟨c0, c1, c2, c3, c4, c5, c6, c7, c8, c9⟩ := nine hB3
    have Hend := Lib.hid (And.intro hB3 (And.intro hpv (And.intro hgw3 hm)))
    clear hB3 hpv hgw3 hm hg
    simp only [opCells]
    go_wp2
    refine bodyPost_ret (results_target (o := ⟨oi, ok, ob, oy, oa, on, ou, ol, od⟩) (pv := .slice ba ol.length bc) (b := bb) rfl rfl (put9_heap Hend.out.1 _ _ _ _ _ _ _ _ _)) rfl ?_
    rw [HT.out]
    exact ⟨put9_below Hend.out.2.2.1 (Nat.le_refl _) _ _ _ _ _ _ _ _ _, _, _, _, rfl, put9_pv Hend.out.2.1 Hend.out.1 (by decide) _ _ _ _ _ _ _ _ _, Hend.out.2.2.2⟩
  · obtain ⟨d1, hd1⟩ : ∃ d, decide ((9 : Int) < (s.length : Int)) = d := ⟨_, rfl⟩
    obtain ⟨d2, hd2⟩ : ∃ d, (s.take 9 == [47, 63, 117, 112, 108, 111, 97, 100, 61]) = d := ⟨_, rfl⟩
    have Hdd : Hid (d1 = true → d2 = true → False) := Lib.hid (fun x y => hup ⟨by rw [x] at hd1; have := of_decide_eq_true hd1; omega, by rw [y] at hd2; exact eq_of_beq hd2⟩)
    have Hd9 : Hid (d1 = true → (9 : Int) ≤ (s.length : Int)) := Lib.hid (fun x => by rw [x] at hd1; have := of_decide_eq_true hd1; omega)
    have Hup := Lib.hid hup
    clear hup
    go_enter Tryz.func86, Tryz.ntmps86
    go_upto_region 1 with fail
    generalize w.alloc (.cells #[.int .u64 0, .int .i64 0, .string ⟨#[]⟩, .string ⟨#[]⟩, .string ⟨#[]⟩, .int .i64 0, .int .u64 0, .slice none 0 0, .slice none 0 0] 26) = W1 at *
    obtain ⟨b0, Hb0⟩ : ∃ b, Hid (b = w.heap.size) := ⟨_, Lib.hid rfl⟩
    rw [← Hb0.out] at hB0 ⊢
    go_cut [19] from 12 to 20 (fun v wx => v = .bool false ∧ wx = W1)
    case first =>
      cases d1 with
      | false =>
        go_wp2
        go_meet
        exact ⟨rfl, rfl⟩
      | true =>
        have f2 := Hd9.out rfl
        cases d2 with
        | true => exact (Hdd.out rfl rfl).elim
        | false =>
          go_wp2_with (go_quiet (fail))
          go_meet
          exact ⟨rfl, rfl⟩
    case rest =>
    obtain ⟨rfl, hw⟩ := hcut
    have hw' := hw.symm
    subst hw'
    clear hw hd1 hd2 Hdd Hd9 e9
    cases s with
    | nil =>
      have HN : Hid (targetR how [] = none) := Lib.hid rfl
      have Hend := Lib.hid (And.intro hB0 hgw)
      obtain ⟨c0, c1, c2, c3, c4, c5, c6, c7, c8, c9⟩ := nine hB0
      clear hB0 hgw
      go_wp2
      exact bodyPost_ret (results_target (o := opZero) (pv := .slice none 0 0) rfl rfl (put9_heap Hend.out.1 _ _ _ _ _ _ _ _ _)) rfl (doc_none HN.out (iv_nil _) (put9_below Hend.out.2 (Nat.le_of_eq Hb0.out.symm) _ _ _ _ _ _ _ _ _))
    | cons c r =>
      have f1 : decide ((r.length : Int) + 1 < 1) = false := by simp; omega
      by_cases hc : c = 47
      · subst hc
        have f2 : ∀ h, (((((⟨(47 :: r).toArray⟩ : ByteArray)[0]'h).toNat : Nat) : Int) != 47) = false := fun _ => rfl
        have e1 : (⟨(47 :: r).toArray⟩ : ByteArray).extract 1 (r.length + 1) = ⟨r.toArray⟩ := ext_from (47 :: r) 1
        have g1 : (1 : Int) ≤ (r.length : Int) + 1 := by omega
        have HT : Hid (targetR how (47 :: r) = slashR how r) := Lib.hid (targetR_slash Hup.out)
        rw [List.length_cons] at hs
        obtain ⟨x1, y1, i1, hv1, hq1, hx1, hy1⟩ := until_bits r [63]
        have HU1 := Lib.hid (fun W => until_any r [63] W (by omega) (by simp))
        rw [hv1] at HU1
        have Hq1 := Lib.hid hq1
        clear hv1 hq1
        obtain ⟨gb, hgb⟩ : ∃ b, (how == [71, 69, 84]) = b := ⟨_, rfl⟩
        obtain ⟨cc, Hcc⟩ : ∃ b, Hid (b = (i1 && gb)) := ⟨_, Lib.hid rfl⟩
        go_wp2_with fail
        (with_reducible refine (HU1.out _).mono ?_)
        rintro e w3 ⟨rfl, hg⟩
        replace hB0 := (hg.block _ (lt_of_getElem? hB0)).trans hB0
        replace hgw := hgw.trans hg
        clear hg f2 f1
        go_upto_region 7 with fail
        go_cut [47] from 43 to 48 (fun v wx => v = .bool cc ∧ wx = w3)
        case first =>
          cases i1 with
          | false =>
            go_wp2
            go_meet
            exact ⟨by rw [Hcc.out]; rfl, rfl⟩
          | true =>
            go_wp2
            go_meet
            exact ⟨by rw [Hcc.out]; rfl, rfl⟩
        case rest =>
        obtain ⟨rfl, hw⟩ := hcut
        have hw' := hw.symm
        subst hw'
        clear hw
        have Hgb := Lib.hid hgb
        clear hgb e1 g1
        cases cc with
        | true =>
          have HS : Hid (slashR how r = listingR x1 y1) := Lib.hid (by
            have h := Hcc.out.symm
            simp only [Bool.and_eq_true] at h
            have h2 := Hgb.out
            rw [h.2] at h2
            unfold slashR
            rw [if_pos (eq_of_beq h2), Hq1.out, if_pos h.1])
          have HLs := Lib.hid (fun W => listing_any x1 y1 W (by omega))
          go_wp2_with fail
          (with_reducible refine (HLs.out _).mono ?_)
          rintro e w4 ⟨hg, o, pv, bb, rfl, hpv, hm⟩
          replace hB0 := (hg.block _ (lt_of_getElem? hB0)).trans hB0
          replace hgw := hgw.trans hg
          obtain ⟨ba, bc, rfl⟩ := OwnI.slice' hpv
          obtain ⟨oi, ok, ob, oy, oa, on, ou, ol, od⟩ := o
          obtain ⟨c0, c1, c2, c3, c4, c5, c6, c7, c8, c9⟩ := nine hB0
          have Hend := Lib.hid (And.intro hB0 (And.intro hpv (And.intro hgw hm)))
          clear hB0 hpv hgw hm hg
          simp only [opCells]
          go_wp2
          refine bodyPost_ret (results_target (o := ⟨oi, ok, ob, oy, oa, on, ou, ol, od⟩) (pv := .slice ba ol.length bc) (b := bb) rfl rfl (put9_heap Hend.out.1 _ _ _ _ _ _ _ _ _)) rfl ?_
          rw [HT.out, HS.out]
          exact ⟨put9_below Hend.out.2.2.1 (Nat.le_of_eq Hb0.out.symm) _ _ _ _ _ _ _ _ _, _, _, _, rfl, put9_pv Hend.out.2.1 Hend.out.1 (by decide) _ _ _ _ _ _ _ _ _, Hend.out.2.2.2⟩
        | false =>
          have HS : Hid (slashR how r = match untilR r [47] with
              | none => if how = ([80, 85, 84] : List UInt8) then some { opZero with kind := 1, bucket := r } else if how = ([68, 69, 76, 69, 84, 69] : List UInt8) then some { opZero with kind := 2, bucket := r } else none
              | some (b, rest) => match unesc rest with
                | none => none
                | some k => if kindK how = 0 then none else some { opZero with bucket := b, key := k, kind := kindK how }) := Lib.hid (by
            have h := Hcc.out.symm
            have h2 := Hgb.out
            unfold slashR
            have h3 : (if how = ([71, 69, 84] : List UInt8) then untilR r [63] else none) = none := by
              split
              · rename_i hh
                rw [hh] at h2
                have h4 : gb = true := h2.symm
                rw [h4] at h
                rw [Hq1.out]
                cases i1 with
                | true => cases h
                | false => rfl
              · rfl
            rw [h3])
          clear Hgb Hcc Hq1 HU1
          obtain ⟨x2, y2, i2, hv2, hq2, hx2, hy2⟩ := until_bits r [47]
          have HU2 := Lib.hid (fun W => until_any r [47] W (by omega) (by simp))
          rw [hv2] at HU2
          have Hq2 := Lib.hid hq2
          clear hv2 hq2
          go_wp2_with fail
          (with_reducible refine (HU2.out _).mono ?_)
          rintro e w4 ⟨rfl, hg⟩
          replace hB0 := (hg.block _ (lt_of_getElem? hB0)).trans hB0
          replace hgw := hgw.trans hg
          clear hg
          cases i2 with
          | false =>
            have HE : Hid (targetR how (47 :: r) = if how = ([80, 85, 84] : List UInt8) then some { opZero with kind := 1, bucket := r } else if how = ([68, 69, 76, 69, 84, 69] : List UInt8) then some { opZero with kind := 2, bucket := r } else none) := Lib.hid (by
              rw [HT.out, HS.out, Hq2.out]
              rfl)
            obtain ⟨c0, c1, c2, c3, c4, c5, c6, c7, c8, c9⟩ := nine hB0
            have Hend := Lib.hid (And.intro hB0 hgw)
            clear hB0 hgw
            by_cases hP : how = [80, 85, 84]
            · subst hP
              have HF : Hid (targetR [80, 85, 84] (47 :: r) = some { opZero with kind := 1, bucket := r }) := Lib.hid (by rw [HE.out, if_pos rfl])
              go_wp2
              exact bodyPost_ret (results_target (o := { opZero with kind := 1, bucket := r }) (pv := .slice none 0 0) rfl rfl (put9_heap Hend.out.1 _ _ _ _ _ _ _ _ _)) rfl (doc_some HF.out (iv_nil _) (put9_below Hend.out.2 (Nat.le_of_eq Hb0.out.symm) _ _ _ _ _ _ _ _ _))
            · by_cases hD : how = [68, 69, 76, 69, 84, 69]
              · subst hD
                have HF : Hid (targetR [68, 69, 76, 69, 84, 69] (47 :: r) = some { opZero with kind := 2, bucket := r }) := Lib.hid (by rw [HE.out, if_neg (by decide), if_pos rfl])
                clear hP
                go_wp2
                exact bodyPost_ret (results_target (o := { opZero with kind := 2, bucket := r }) (pv := .slice none 0 0) rfl rfl (put9_heap Hend.out.1 _ _ _ _ _ _ _ _ _)) rfl (doc_some HF.out (iv_nil _) (put9_below Hend.out.2 (Nat.le_of_eq Hb0.out.symm) _ _ _ _ _ _ _ _ _))
              · have HF : Hid (targetR how (47 :: r) = none) := Lib.hid (by rw [HE.out, if_neg hP, if_neg hD])
                have q1 : (how == [80, 85, 84]) = false := by simpa using hP
                have q2 : (how == [68, 69, 76, 69, 84, 69]) = false := by simpa using hD
                clear hP hD
                go_wp2
                exact bodyPost_ret (results_target (o := opZero) (pv := .slice none 0 0) rfl rfl (put9_heap Hend.out.1 _ _ _ _ _ _ _ _ _)) rfl (doc_none HF.out (iv_nil _) (put9_below Hend.out.2 (Nat.le_of_eq Hb0.out.symm) _ _ _ _ _ _ _ _ _))
          | true =>
            obtain ⟨kk, bk, hvk, hqk⟩ := une_bits y2
            have HEk := Lib.hid (fun W => unescapeL y2 W (by omega))
            rw [hvk] at HEk
            have HE : Hid (targetR how (47 :: r) = if bk = true then (if kindK how = 0 then none else some { opZero with bucket := x2, key := kk, kind := kindK how }) else none) := Lib.hid (by
              rw [HT.out, HS.out, Hq2.out, if_pos rfl]
              simp only
              rw [hqk]
              cases bk <;> rfl)
            clear hvk hqk
            go_wp2_with fail
            (with_reducible refine (HEk.out _).mono ?_)
            rintro e w5 ⟨rfl, hg⟩
            replace hB0 := (hg.block _ (lt_of_getElem? hB0)).trans hB0
            replace hgw := hgw.trans hg
            clear hg
            go_upto_region 19 with fail
            have hB1 : (w5.alloc (.cells #[.int .u64 0, .int .i64 0, .string ⟨x2.toArray⟩, .string ⟨kk.toArray⟩, .string ⟨#[]⟩, .int .i64 0, .int .u64 0, .slice none 0 0, .slice none 0 0] 26)).heap[w5.heap.size]? = some (.cells (opCells { opZero with bucket := x2, key := kk } (.slice none 0 0)) 26) := heap_alloc_new _ _
            have lb0 := lt_of_getElem? hB0
            have hB0n : (w5.alloc (.cells #[.int .u64 0, .int .i64 0, .string ⟨x2.toArray⟩, .string ⟨kk.toArray⟩, .string ⟨#[]⟩, .int .i64 0, .int .u64 0, .slice none 0 0, .slice none 0 0] 26)).heap[b0]? = some (.cells (opCells opZero (.slice none 0 0)) 26) := (heap_alloc_old _ _ lb0).trans hB0
            have hgwn : Grow w (w5.alloc (.cells #[.int .u64 0, .int .i64 0, .string ⟨x2.toArray⟩, .string ⟨kk.toArray⟩, .string ⟨#[]⟩, .int .i64 0, .int .u64 0, .slice none 0 0, .slice none 0 0] 26)) := hgw.trans (Grow.alloc _ _)
            have Hne : Hid (b0 ≠ w5.heap.size) := Lib.hid (Nat.ne_of_lt lb0)
            have Hle : Hid (w.heap.size ≤ w5.heap.size) := Lib.hid hgw.size
            clear hB0 hgw
            generalize w5.alloc (.cells #[.int .u64 0, .int .i64 0, .string ⟨x2.toArray⟩, .string ⟨kk.toArray⟩, .string ⟨#[]⟩, .int .i64 0, .int .u64 0, .slice none 0 0, .slice none 0 0] 26) = W6 at *
            obtain ⟨b1, Hb1⟩ : ∃ b, Hid (b = w5.heap.size) := ⟨_, Lib.hid rfl⟩
            rw [← Hb1.out] at hB1 Hne Hle ⊢
            clear lb0
            by_cases hP : how = [80, 85, 84]
            · subst hP
              have HF : Hid (targetR [80, 85, 84] (47 :: r) = if bk = true then some { opZero with bucket := x2, key := kk, kind := 3 } else none) := Lib.hid (by rw [HE.out]; rfl)
              have xc : W6.cell? ⟨b1, 1, none⟩ = some (.int .i64 0) := ck_cell hB1 rfl
              have xf : W6.frozen? ⟨b1, 1, none⟩ = false := by simp [World.frozen?, hB1]
              have hB1m : (W6.setCell ⟨b1, 1, none⟩ (.int .i64 3)).heap[b1]? = some (.cells (opCells { opZero with bucket := x2, key := kk, kind := 3 } (.slice none 0 0)) 26) := setCell_heap hB1 1 _
              have hB0m : (W6.setCell ⟨b1, 1, none⟩ (.int .i64 3)).heap[b0]? = some (.cells (opCells opZero (.slice none 0 0)) 26) := (Below.heap_setCell W6 ⟨b1, 1, none⟩ _ b0 Hne.out).trans hB0n
              have hgwm : Grow w (W6.setCell ⟨b1, 1, none⟩ (.int .i64 3)) := hgwn.setCell Hle.out _
              go_upto_region 29 with fail
              generalize W6.setCell ⟨b1, 1, none⟩ (.int .i64 3) = W7 at *
              obtain ⟨a0, a1, a2, a3, a4, a5, a6, a7, a8, a9⟩ := nine hB1m
              obtain ⟨c0, c1, c2, c3, c4, c5, c6, c7, c8, c9⟩ := nine hB0m
              have Hend := Lib.hid (And.intro hB0m hgwm)
              clear xc xf hB1 hB0n hgwn hB1m hB0m hgwm
              go_wp2
              refine bodyPost_ret (results_target (o := { opZero with bucket := x2, key := kk, kind := 3 }) (pv := .slice none 0 0) (b := bk) rfl rfl (put9_heap Hend.out.1 _ _ _ _ _ _ _ _ _)) rfl ?_
              have Hbl := put9_below Hend.out.2 (Nat.le_of_eq Hb0.out.symm) (.int .u64 0) (.int .i64 3) (.string ⟨x2.toArray⟩) (.string ⟨kk.toArray⟩) (.string ⟨#[]⟩) (.int .i64 0) (.int .u64 0) (.slice none 0 0) (.slice none 0 0)
              cases bk with
              | true => exact doc_some (by rw [HF.out]; rfl) (iv_nil _) Hbl
              | false => exact doc_none (by rw [HF.out]; rfl) (iv_nil _) Hbl
            · skip
              by_cases hG : how = [71, 69, 84]
              · subst hG
                have HF : Hid (targetR [71, 69, 84] (47 :: r) = if bk = true then some { opZero with bucket := x2, key := kk, kind := 4 } else none) := Lib.hid (by rw [HE.out]; rfl)
                have xc : W6.cell? ⟨b1, 1, none⟩ = some (.int .i64 0) := ck_cell hB1 rfl
                have xf : W6.frozen? ⟨b1, 1, none⟩ = false := by simp [World.frozen?, hB1]
                have hB1m : (W6.setCell ⟨b1, 1, none⟩ (.int .i64 4)).heap[b1]? = some (.cells (opCells { opZero with bucket := x2, key := kk, kind := 4 } (.slice none 0 0)) 26) := setCell_heap hB1 1 _
                have hB0m : (W6.setCell ⟨b1, 1, none⟩ (.int .i64 4)).heap[b0]? = some (.cells (opCells opZero (.slice none 0 0)) 26) := (Below.heap_setCell W6 ⟨b1, 1, none⟩ _ b0 Hne.out).trans hB0n
                have hgwm : Grow w (W6.setCell ⟨b1, 1, none⟩ (.int .i64 4)) := hgwn.setCell Hle.out _
                go_upto_region 29 with fail
                generalize W6.setCell ⟨b1, 1, none⟩ (.int .i64 4) = W7 at *
                obtain ⟨a0, a1, a2, a3, a4, a5, a6, a7, a8, a9⟩ := nine hB1m
                obtain ⟨c0, c1, c2, c3, c4, c5, c6, c7, c8, c9⟩ := nine hB0m
                have Hend := Lib.hid (And.intro hB0m hgwm)
                clear xc xf hB1 hB0n hgwn hB1m hB0m hgwm
                go_wp2
                refine bodyPost_ret (results_target (o := { opZero with bucket := x2, key := kk, kind := 4 }) (pv := .slice none 0 0) (b := bk) rfl rfl (put9_heap Hend.out.1 _ _ _ _ _ _ _ _ _)) rfl ?_
                have Hbl := put9_below Hend.out.2 (Nat.le_of_eq Hb0.out.symm) (.int .u64 0) (.int .i64 4) (.string ⟨x2.toArray⟩) (.string ⟨kk.toArray⟩) (.string ⟨#[]⟩) (.int .i64 0) (.int .u64 0) (.slice none 0 0) (.slice none 0 0)
                cases bk with
                | true => exact doc_some (by rw [HF.out]; rfl) (iv_nil _) Hbl
                | false => exact doc_none (by rw [HF.out]; rfl) (iv_nil _) Hbl
              · skip
                by_cases hD : how = [68, 69, 76, 69, 84, 69]
                · subst hD
                  have HF : Hid (targetR [68, 69, 76, 69, 84, 69] (47 :: r) = if bk = true then some { opZero with bucket := x2, key := kk, kind := 5 } else none) := Lib.hid (by rw [HE.out]; rfl)
                  have xc : W6.cell? ⟨b1, 1, none⟩ = some (.int .i64 0) := ck_cell hB1 rfl
                  have xf : W6.frozen? ⟨b1, 1, none⟩ = false := by simp [World.frozen?, hB1]
                  have hB1m : (W6.setCell ⟨b1, 1, none⟩ (.int .i64 5)).heap[b1]? = some (.cells (opCells { opZero with bucket := x2, key := kk, kind := 5 } (.slice none 0 0)) 26) := setCell_heap hB1 1 _
                  have hB0m : (W6.setCell ⟨b1, 1, none⟩ (.int .i64 5)).heap[b0]? = some (.cells (opCells opZero (.slice none 0 0)) 26) := (Below.heap_setCell W6 ⟨b1, 1, none⟩ _ b0 Hne.out).trans hB0n
                  have hgwm : Grow w (W6.setCell ⟨b1, 1, none⟩ (.int .i64 5)) := hgwn.setCell Hle.out _
                  go_upto_region 29 with fail
                  generalize W6.setCell ⟨b1, 1, none⟩ (.int .i64 5) = W7 at *
                  obtain ⟨a0, a1, a2, a3, a4, a5, a6, a7, a8, a9⟩ := nine hB1m
                  obtain ⟨c0, c1, c2, c3, c4, c5, c6, c7, c8, c9⟩ := nine hB0m
                  have Hend := Lib.hid (And.intro hB0m hgwm)
                  clear xc xf hB1 hB0n hgwn hB1m hB0m hgwm
                  go_wp2
                  refine bodyPost_ret (results_target (o := { opZero with bucket := x2, key := kk, kind := 5 }) (pv := .slice none 0 0) (b := bk) rfl rfl (put9_heap Hend.out.1 _ _ _ _ _ _ _ _ _)) rfl ?_
                  have Hbl := put9_below Hend.out.2 (Nat.le_of_eq Hb0.out.symm) (.int .u64 0) (.int .i64 5) (.string ⟨x2.toArray⟩) (.string ⟨kk.toArray⟩) (.string ⟨#[]⟩) (.int .i64 0) (.int .u64 0) (.slice none 0 0) (.slice none 0 0)
                  cases bk with
                  | true => exact doc_some (by rw [HF.out]; rfl) (iv_nil _) Hbl
                  | false => exact doc_none (by rw [HF.out]; rfl) (iv_nil _) Hbl
                · skip
                  by_cases hQ : how = [80, 79, 83, 84]
                  · subst hQ
                    have HF : Hid (targetR [80, 79, 83, 84] (47 :: r) = if bk = true then some { opZero with bucket := x2, key := kk, kind := 7 } else none) := Lib.hid (by rw [HE.out]; rfl)
                    have xc : W6.cell? ⟨b1, 1, none⟩ = some (.int .i64 0) := ck_cell hB1 rfl
                    have xf : W6.frozen? ⟨b1, 1, none⟩ = false := by simp [World.frozen?, hB1]
                    have hB1m : (W6.setCell ⟨b1, 1, none⟩ (.int .i64 7)).heap[b1]? = some (.cells (opCells { opZero with bucket := x2, key := kk, kind := 7 } (.slice none 0 0)) 26) := setCell_heap hB1 1 _
                    have hB0m : (W6.setCell ⟨b1, 1, none⟩ (.int .i64 7)).heap[b0]? = some (.cells (opCells opZero (.slice none 0 0)) 26) := (Below.heap_setCell W6 ⟨b1, 1, none⟩ _ b0 Hne.out).trans hB0n
                    have hgwm : Grow w (W6.setCell ⟨b1, 1, none⟩ (.int .i64 7)) := hgwn.setCell Hle.out _
                    go_upto_region 29 with fail
                    generalize W6.setCell ⟨b1, 1, none⟩ (.int .i64 7) = W7 at *
                    obtain ⟨a0, a1, a2, a3, a4, a5, a6, a7, a8, a9⟩ := nine hB1m
                    obtain ⟨c0, c1, c2, c3, c4, c5, c6, c7, c8, c9⟩ := nine hB0m
                    have Hend := Lib.hid (And.intro hB0m hgwm)
                    clear xc xf hB1 hB0n hgwn hB1m hB0m hgwm
                    go_wp2
                    refine bodyPost_ret (results_target (o := { opZero with bucket := x2, key := kk, kind := 7 }) (pv := .slice none 0 0) (b := bk) rfl rfl (put9_heap Hend.out.1 _ _ _ _ _ _ _ _ _)) rfl ?_
                    have Hbl := put9_below Hend.out.2 (Nat.le_of_eq Hb0.out.symm) (.int .u64 0) (.int .i64 7) (.string ⟨x2.toArray⟩) (.string ⟨kk.toArray⟩) (.string ⟨#[]⟩) (.int .i64 0) (.int .u64 0) (.slice none 0 0) (.slice none 0 0)
                    cases bk with
                    | true => exact doc_some (by rw [HF.out]; rfl) (iv_nil _) Hbl
                    | false => exact doc_none (by rw [HF.out]; rfl) (iv_nil _) Hbl
                  · skip
                    have HF : Hid (targetR how (47 :: r) = none) := Lib.hid (by
                      rw [HE.out]
                      have : kindK how = 0 := by unfold kindK; rw [if_neg hP, if_neg hG, if_neg hD, if_neg hQ]
                      rw [if_pos this]
                      cases bk <;> rfl)
                    have q1 : (how == [80, 85, 84]) = false := by simpa using hP
                    have q2 : (how == [71, 69, 84]) = false := by simpa using hG
                    have q3 : (how == [68, 69, 76, 69, 84, 69]) = false := by simpa using hD
                    have q4 : (how == [80, 79, 83, 84]) = false := by simpa using hQ
                    obtain ⟨a0, a1, a2, a3, a4, a5, a6, a7, a8, a9⟩ := nine hB1
                    obtain ⟨c0, c1, c2, c3, c4, c5, c6, c7, c8, c9⟩ := nine hB0n
                    have Hend := Lib.hid (And.intro hB0n hgwn)
                    clear hB1 hB0n hgwn hP hG hD hQ
                    go_wp2
                    exact bodyPost_ret (results_target (o := { opZero with bucket := x2, key := kk }) (pv := .slice none 0 0) rfl rfl (put9_heap Hend.out.1 _ _ _ _ _ _ _ _ _)) rfl (doc_none HF.out (iv_nil _) (put9_below Hend.out.2 (Nat.le_of_eq Hb0.out.symm) _ _ _ _ _ _ _ _ _))
      · have f2 : ∀ h, (((((⟨(c :: r).toArray⟩ : ByteArray)[0]'h).toNat : Nat) : Int) != 47) = true := fun h => by
          have h1 : (⟨(c :: r).toArray⟩ : ByteArray)[0]'h = c := rfl
          rw [h1]
          have h2 := byte_ne c 47 (by omega)
          refine h2.trans ?_
          simpa using hc
        have HN : Hid (targetR how (c :: r) = none) := Lib.hid (targetR_no hc)
        have Hend := Lib.hid (And.intro hB0 hgw)
        obtain ⟨c0, c1, c2, c3, c4, c5, c6, c7, c8, c9⟩ := nine hB0
        clear hB0 hgw hc
        go_wp2
        exact bodyPost_ret (results_target (o := opZero) (pv := .slice none 0 0) rfl rfl (put9_heap Hend.out.1 _ _ _ _ _ _ _ _ _)) rfl (doc_none HN.out (iv_nil _) (put9_below Hend.out.2 (Nat.le_of_eq Hb0.out.symm) _ _ _ _ _ _ _ _ _))
end Go.Proofs.YtdegmpimcappjaaGreatDoor
