/- The links behind an act: those of the document's net. -/
import Derived.Test.YtbanfilgokideaaT4
namespace Go.Proofs.Ytbanfilgokideaa
open Go.RowKit Go.Gl

theorem LinkRow.grow {w w' : World} {v : Value} {ls : List Lk} (h : LinkRow w v ls) (hg : Grow w w') : LinkRow w' v ls := by
  obtain ⟨a, c, hv, h⟩ := h
  refine ⟨a, c, hv, ?_⟩
  rcases h with h | ⟨b, ha, hb, hc⟩
  · exact .inl h
  · refine .inr ⟨b, ha, Nat.lt_of_lt_of_le hb hg.size, fun i x hx => ?_⟩
    rw [Grow.cells _ _ _ hg hb, Grow.cells _ _ _ hg hb, Grow.cells _ _ _ hg hb]
    exact hc i x hx

theorem neq_lk (x y z : Int) (w : World) : (binOp .neq 69 (.agg #[.int .i64 x, .int .i64 y, .int .i64 z]) (.agg #[.int .i64 x, .int .i64 y, .int .i64 z])).run Try.prog w = .ok (.bool false) w := by
  have u3 := Try.underlying3
  have a3 := Try.isAgg3
  have z3 := Try.sizeOf3
  have hS : Try.prog.underlying 69 = some (.struct (Try.prog.fieldsOf 69)) := by kernel_rfl
  have hp : Try.prog.stoodInHeld 69 = false := by kernel_rfl
  rw [run_neq_struct, show (10000 : Nat) = 9999 + 1 from rfl, run_equalIn_struct w 9999 69 _ _ hS hp]
  simp only [Program.fieldsOf, Try.underlying69]
  go_simp

theorem guard_lk (op : BinOp) (a b : Operand) (xs ys : Array Value) (w : World) : (eqGuard op 69 a b (.agg xs) (.agg ys)).run Try.prog w = .ok () w := run_eqGuard_agg w op 69 a b xs ys (by kernel_rfl)

def OutInv (w : World) (n : Nat) (L : List RM) (kv fv : Value) (wr : World) : Prop :=
  ∃ i : Nat, i ≤ n ∧ fv = .int .i64 i ∧ kv = .int .i64 ((refPre n L (i * n)).length : Nat) ∧ Grow w wr

def InInv (w : World) (n : Nat) (L : List RM) (i : Nat) (kv tv : Value) (wr : World) : Prop :=
  ∃ j : Nat, j ≤ n ∧ tv = .int .i64 j ∧ kv = .int .i64 ((refPre n L (i * n + j)).length : Nat) ∧ Grow w wr

theorem refPre_len (n : Nat) (L : List RM) (s : Nat) : (refPre n L s).length ≤ s := by
  unfold refPre
  have := List.length_filterMap_le (cellLk n L) (List.range s)
  simpa using this

set_option maxRecDepth 100000 in
set_option maxHeartbeats 4000000 in
theorem links_true {B : Nat} {w : World} {p r q : Nat} {nodes bound now : Int} {gs : List Bag} {v : Value} {L : List RM} (h : St B w p r q nodes bound now gs v L) {n : Nat} (hn : nodes = n) (hn16 : n ≤ 16) :
    Calls Try.prog 16 #[.pointer (some ⟨p, 0, none⟩), .pointer (some ⟨q, 0, none⟩)] w (fun e w' => e = .returned (.bool true) ∧ Grow w w') := by
  have hlk := links_any h.net (by
    have h1 := h.cpl.bags
    have h2 := h.len
    simp [vw] at h1
    omega)
  rw [lkEnt_of] at hlk
  have Hlk := Lib.hid hlk
  have H := Lib.hid h
  subst hn
  clear hlk h
  go_enter Try.func16, Try.ntmps16
  go_wp2_with fail
  (with_reducible refine Hlk.out.mono ?_)
  rintro e w1 ⟨lv, ls, rfl, hrow, hp, hs, hg1⟩
  have hls := cpl_links H.out.cpl rfl hp hs
  subst hls
  obtain ⟨la, lc, rfl, hrow⟩ := hrow
  have H1 := Lib.hid (H.out.grow hg1)
  have Hrow := Lib.hid hrow
  have Hg1 := Lib.hid hg1
  obtain ⟨k0, k1, k2, k3⟩ := H1.out.ref.cells
  have lq := lt_of_getElem? H1.out.ref.self
  have hcl := Grow.cells (w := w1)
  have hlen := refPre_len n L (n * n)
  have hnn : n * n ≤ 256 := Nat.mul_le_mul hn16 hn16
  clear hrow hp hs hg1 Hlk
  go_wp2_with fail
  go_loopw [6, 7] (fun kv fv wr => OutInv w1 n L kv fv wr) (fun _ fv _ => n - (intOf fv).toNat)
  case atStart => exact ⟨0, Nat.zero_le _, rfl, by simp [refPre], Grow.refl _⟩
  case round =>
    obtain ⟨i, hi, rfl, rfl, hg⟩ := hrel
    have d0 := hcl wr q 0 hg lq
    rw [k0] at d0
    by_cases hlt : i < n
    · have hlt' : (i : Int) < (n : Int) := by omega
      have hin : i * n + n ≤ n * n := by
        have := Nat.mul_le_mul_right n (show i + 1 ≤ n from hlt)
        rw [Nat.add_mul] at this; omega
      have Hg := Lib.hid hg
      clear hg
      go_wp2_with fail
      go_loopw [6, 8] (fun kv tv wr => InInv w1 n L i kv tv wr) (fun _ tv _ => n - (intOf tv).toNat)
      case atStart => exact ⟨0, Nat.zero_le _, rfl, rfl, Hg.out⟩
      case round =>
        obtain ⟨j, hj, rfl, rfl, hgq⟩ := hrel
        clear d0
        have d0 := hcl wr q 0 hgq lq
        rw [k0] at d0
        by_cases hjlt : j < n
        · have hjlt' : (j : Int) < (n : Int) := by omega
          have hcell := cellLk_at (i := i) hjlt L
          have hcnt := count_any (H1.out.ref.grow hgq) (by have := H1.out.len; omega) (i : Int) (j : Int)
          have hkl := refPre_len n L (i * n + j)
          generalize hcd : (ofL ((i : Int), (j : Int)) L).length = c at *
          have Hcnt := Lib.hid hcnt
          have Hgq := Lib.hid hgq
          clear hcnt hgq
          by_cases hc0 : c = 0
          · rw [if_pos hc0] at hcell
            have hsk := refPre_skip hcell
            have hcb : ((c : Int) == 0) = true := by simp [hc0]
            have Hsk := Lib.hid hsk
            clear hcell hsk hcd
            go_wp2_with fail
            (with_reducible refine Hcnt.out.mono ?_)
            rintro e wc ⟨rfl, hgc⟩
            have Hgc := Lib.hid (Hgq.out.trans hgc)
            clear hgc
            go_wp2
            go_roundw
            case rel => exact ⟨j + 1, hjlt, rfl, by rw [← Nat.add_assoc, Hsk.out], Hgc.out⟩
            case measure => simp [intOf]; omega
          · rw [if_neg hc0] at hcell
            obtain ⟨hat, hnext⟩ := refPre_at (t := n * n) (show i * n + j < n * n by omega) hcell
            have hcb : ((c : Int) == 0) = false := by simpa using hc0
            have hklt := (List.getElem?_eq_some_iff.1 hat).1
            obtain ⟨b, rfl, hbl, hbc⟩ : ∃ b, la = some ⟨b, 0, none⟩ ∧ b < w1.heap.size ∧ ∀ (i : Nat) (x : Lk), (refPre n L (n * n))[i]? = some x → w1.cell? ⟨b, i * 3, none⟩ = some (.int .i64 x.1) ∧ w1.cell? ⟨b, i * 3 + 1, none⟩ = some (.int .i64 x.2.1) ∧ w1.cell? ⟨b, i * 3 + 2, none⟩ = some (.int .i64 x.2.2) := by
              rcases Hrow.out with h1 | h1
              · rw [h1] at hat; simp at hat
              · exact h1
            obtain ⟨g0, g1, g2⟩ := hbc _ _ hat
            dsimp only at g0 g1 g2
            have Hnext := Lib.hid hnext
            generalize hlq : (refPre n L (n * n)).length = len at *
            generalize hkq : (refPre n L (i * n + j)).length = kk at *
            clear hcell hcd hat hnext hbc
            go_wp2_with fail
            (with_reducible refine Hcnt.out.mono ?_)
            rintro e wc ⟨rfl, hgc⟩
            have hgw := Hgq.out.trans hgc
            rw [← hcl wc b _ hgw hbl] at g0 g1 g2
            have Hgc := Lib.hid hgw
            have hk1 : (kk : Int) < (len : Int) := by omega
            have hk0 : (0 : Int) ≤ (kk : Int) := by omega
            have hk3 : (kk : Int) + 1 ≤ 1000 := by omega
            have hkw : IntKind.i64.wrap ((kk : Int) + 1) = (kk : Int) + 1 := IntWalk.i64_in _ (by omega)
            have hge : decide ((len : Int) ≤ (kk : Int)) = false := by simp; omega
            have hq1 := neq_lk (i : Int) (j : Int) (c : Int)
            have hq2 := guard_lk
            clear hgc hgw
            go_wp2
            go_roundw
            case rel => exact ⟨j + 1, hjlt, rfl, by rw [← Nat.add_assoc, Hnext.out]; rfl, Hgc.out⟩
            case measure => simp [intOf]; omega
        · obtain rfl : j = n := by omega
          have Hgq := Lib.hid hgq
          clear hgq
          go_wp2
          go_roundw
          case rel => exact ⟨i + 1, hlt, rfl, by rw [Nat.add_mul, Nat.one_mul], Hgq.out⟩
          case measure => simp [intOf]; omega
    · obtain rfl : i = n := by omega
      have hall := all_any (H1.out.net.grow (w' := wr.drew) (hg.trans (Grow.drew _))) (by rw [H1.out.cpl.tot]; have := H1.out.len; omega)
      rw [H1.out.cpl.tot] at hall
      obtain ⟨va, vc, rfl, _⟩ := H1.out.ref.form
      have Hall := Lib.hid hall
      have Hg := Lib.hid hg
      generalize (refPre i L (i * i)).length = kk at *
      have hkk : ((kk : Int) == (kk : Int)) = true := by simp
      have hnw : ((now : Int) == now) = true := by simp
      generalize hLl : L.length = ll at *
      have hll : ((ll : Int) == (ll : Int)) = true := by simp
      clear hall d0 hLl
      go_wp2_with fail
      clear hg
      refine wp_region_pi (fun W => Below w1.heap.size w1 W) [(0, false), (1, false), (2, false), (3, false), (4, false), (5, false), (7, false), (8, false), (9, false), (10, false), (11, false), (6, true), (12, false), (13, false), (14, false), (15, false), (17, false), (18, false), (19, false), (20, false), (16, true), (21, false), (22, false), (23, false)] (by kernel_rfl) (by kernel_rfl) (fun c a d v w h => by cases d <;> exact h) (Hg.out.trans (Grow.drew _)) ?_
      simp only [arrange, nth]
      repeat (first | (refine wpPi_quiet (v := ?_) (by rfl) (fun W hW => ?_) ?_; rotate_left; (obtain hW := hW; go_simp; with_reducible rfl); simp only [Act.put, List.setIfInBounds_toArray, List.set_cons_zero, List.set_cons_succ]) | (refine wpPi_off (by rfl) ?_; simp only [Act.put, List.setIfInBounds_toArray, List.set_cons_zero, List.set_cons_succ]))
      refine wpPi_call (by rfl) (by go_simp) Hall.out ?_
      rintro e wa ⟨rfl, hga⟩
      have hgwa : Grow w1 wa := (Hg.out.trans (Grow.drew _)).trans hga
      refine ⟨_, rfl, hgwa, ?_⟩
      try simp only [Act.put, List.setIfInBounds_toArray, List.set_cons_zero, List.set_cons_succ]
      repeat (first | (refine wpPi_quiet (v := ?_) (by rfl) (fun W hW => ?_) ?_; rotate_left; (obtain hW := hW; go_simp; with_reducible rfl); simp only [Act.put, List.setIfInBounds_toArray, List.set_cons_zero, List.set_cons_succ]) | (refine wpPi_off (by rfl) ?_; simp only [Act.put, List.setIfInBounds_toArray, List.set_cons_zero, List.set_cons_succ]))
      refine wpPi_call (by rfl) (by go_simp) (now_any (H1.out.net.grow hgwa)) ?_
      rintro e wb ⟨rfl, rfl⟩
      refine ⟨_, rfl, hgwa, ?_⟩
      try simp only [Act.put, List.setIfInBounds_toArray, List.set_cons_zero, List.set_cons_succ]
      repeat (first | (refine wpPi_quiet (v := ?_) (by rfl) (fun W hW => ?_) ?_; rotate_left; (obtain hW := hW; go_simp; with_reducible rfl); simp only [Act.put, List.setIfInBounds_toArray, List.set_cons_zero, List.set_cons_succ]) | (refine wpPi_off (by rfl) ?_; simp only [Act.put, List.setIfInBounds_toArray, List.set_cons_zero, List.set_cons_succ]))
      refine wpPi_nil ?_
      have Hgwa := Lib.hid hgwa
      clear hgwa hga
      go_wp2
      go_ret
      exact ⟨rfl, Hg1.out.trans Hgwa.out⟩
end Go.Proofs.Ytbanfilgokideaa
