/- NetPlays returns true for every net and every slice of acts that lies in memory, and turns nothing that was there. -/
import Derived.Test.YtbanfilgokideaaT5
namespace Go.Proofs.Ytbanfilgokideaa
open Go.RowKit Go.Gl

/-- An act, with what NetPlays asks beyond. -/
structure PAct (w : World) (b o : Nat) (a : ActD) : Prop where
  act : ActAt w b o a
  pick : a.pick ≤ 9223372036854775807
  byt : BytesA w a.bytes a.bs
  lies : ∀ b, blk a.bytes = some b → a.bs ≠ [] → b < w.heap.size

def PActsAt (w : World) (v : Value) (xs : List ActD) : Prop :=
  ∃ a c, v = .slice a xs.length c ∧ (xs = [] ∨ ∃ b o, a = some ⟨b, o, none⟩ ∧ b < w.heap.size ∧ ∀ (i : Nat) (x : ActD), xs[i]? = some x → PAct w b (o + i * 6) x)

def PlaysInv (w2 : World) (p r q : Nat) (nodes bound : Int) (m : Nat) (vi : Value) (wr : World) : Prop :=
  ∃ (i : Nat) (now : Int) (gs : List Bag) (v : Value) (L : List RM), i ≤ m ∧ vi = .int .i64 i ∧ St w2.heap.size wr p r q nodes bound now gs v L ∧ L.length ≤ 101 * i ∧ now ≤ i ∧ Below w2.heap.size w2 wr

set_option maxRecDepth 100000 in
set_option maxHeartbeats 4000000 in
theorem plays_some (w : World) (nodes bound : Int) (ab ao c : Nat) (xs : List ActD) (hb : ab < w.heap.size) (hmax : xs.length ≤ 9223372036854775807) (ha : ∀ (i : Nat) (x : ActD), xs[i]? = some x → PAct w ab (ao + i * 6) x) :
    Calls Try.prog 5 #[.int .i64 nodes, .int .i64 bound, .slice (some ⟨ab, ao, none⟩) xs.length c] w (fun e w' => e = .returned (.bool true) ∧ Grow w w') := by
  have Ha := Lib.hid ha
  clear ha
  go_enter Try.func5, Try.ntmps5
  go_wp2_with fail
  (with_reducible refine (known_true _).mono ?_)
  rintro e w1 ⟨rfl, hg1⟩
  have hacts : ActsAt w1 (.slice (some ⟨ab, ao, none⟩) xs.length c) xs := ⟨_, _, rfl, .inr ⟨ab, ao, rfl, by have := hg1.size; omega, fun i x hx => (Ha.out i x hx).act.grow hg1 hb⟩⟩
  have Hacts := Lib.hid hacts
  clear hacts
  go_wp2_with fail
  (with_reducible refine (few_any Hacts.out hmax).mono ?_)
  rintro e w2 ⟨rb, rfl, hok, hg2⟩
  cases rb with
  | false =>
    go_wp2
    go_ret
    exact ⟨rfl, hg1.trans hg2⟩
  | true =>
    have Hok := Lib.hid (hok rfl)
    clear hok
    have hww : Grow w w2 := hg1.trans hg2
    by_cases hbad : BadNew nodes bound
    · have Hbad := Lib.hid hbad
      clear hbad
      go_wp2_with fail
      (with_reducible refine (new_bad _ _ _ Hbad.out).mono ?_)
      rintro e w3 ⟨rfl, rfl⟩
      go_wp2_with fail
      (with_reducible refine (ref_new_bad _ _ _ Hbad.out).mono ?_)
      rintro e w4 ⟨rfl, rfl⟩
      go_wp2
      go_ret
      exact ⟨rfl, hww⟩
    · unfold BadNew at hbad
      have n1 : 1 ≤ nodes := by omega
      have n2 : nodes ≤ 16 := by omega
      have b1 : 1 ≤ bound := by omega
      have b2 : bound ≤ 65536 := by omega
      clear hbad
      go_wp2_with fail
      (with_reducible refine (new_ok _ _ _ n1 n2 b1 b2).mono ?_)
      rintro e w3 ⟨rfl, rfl⟩
      have hN3 := net_new w2 nodes bound
      have hg3 : Grow w2 ((w2.alloc (.map #[] 0)).alloc (.cells #[.int .i64 nodes, .int .i64 bound, .int .i64 0, .map (some w2.heap.size)] 49)) := by (repeat (first | exact Below.refl _ _ | assumption | refine Below.drew ?_ | refine bDrewN ?_ | refine Below.setCell ?_ (by first | omega | (simp <;> omega)) _ | refine Below.alloc ?_ (by first | omega | (simp <;> omega)) _))
      have HN3 := Lib.hid hN3
      have Hg3 := Lib.hid hg3
      clear hN3 hg3
      go_wp2_with fail
      generalize (w2.alloc (.map #[] 0)).alloc (.cells #[.int .i64 nodes, .int .i64 bound, .int .i64 0, .map (some w2.heap.size)] 49) = w3 at *
      (with_reducible refine (ref_new_ok _ _ _ n1 n2 b1 b2).mono ?_)
      rintro e w4 ⟨rfl, rfl⟩
      have hR4 := ref_at_new (B := w2.heap.size) nodes bound w3 Hg3.out.size
      have hg4 : Grow w3 (w3.alloc (.cells #[.int .i64 nodes, .int .i64 bound, .int .i64 0, .slice none 0 0] 61)) := Grow.alloc _ _
      have hS4 : St w2.heap.size (w3.alloc (.cells #[.int .i64 nodes, .int .i64 bound, .int .i64 0, .slice none 0 0] 61)) (w2.heap.size + 1) w2.heap.size w3.heap.size nodes bound 0 [] (.slice none 0 0) [] := ⟨HN3.out.grow hg4, hR4, Cpl.nil (by omega), by simp, b2, by omega, by omega, by omega⟩
      have HS4 := Lib.hid hS4
      have Hg4 := Lib.hid (Hg3.out.trans hg4)
      clear hR4 hg4 hS4
      go_wp2_with fail
      go_loopw [11] (fun vi wr => PlaysInv w2 (w2.heap.size + 1) w2.heap.size w3.heap.size nodes bound xs.length vi wr) (fun vi _ => xs.length - (intOf vi).toNat)
      case atStart => exact ⟨0, 0, [], _, [], Nat.zero_le _, rfl, HS4.out, by simp, by omega, Hg4.out⟩
      case round =>
        obtain ⟨i, now, gs, v, L, hi, rfl, hS, hL, hnow, hbel⟩ := hrel
        by_cases hlt : i < xs.length
        · obtain ⟨x, hx⟩ : ∃ x, xs[i]? = some x := ⟨xs[i], by simp [hlt]⟩
          have hwr : Grow w wr := hww.trans hbel
          have hP := Ha.out i x hx
          have hA := hP.act.grow hwr hb
          obtain ⟨ta, tc, ht, _⟩ := hA.ints
          obtain ⟨ba, bc, hbb⟩ := hA.len
          have c0 := hA.op
          have c1 := hA.frm
          have c2 := hA.to
          have c3 := hA.pick
          have c4 := hA.tos
          have c5 := hA.bytes
          rw [ht] at c4
          rw [hbb] at c5
          have hk1 : (i : Int) < (xs.length : Int) := by omega
          have hk0 : (0 : Int) ≤ (i : Int) := by omega
          have hok := Hok.out
          have hi5 : i < 500 := by have := hok.1; omega
          obtain ⟨hxk, hxb⟩ := hok.2 x (List.mem_of_getElem? hx)
          have hints := (hP.act.ints).grow hww
          rw [ht] at hints
          have hbyt := hP.byt.grow hwr
          have hlies := hP.lies
          rw [hbb] at hbyt hlies
          have hpick := hP.pick
          have hbs := hA.bsn
          have hstep := step_any hS x.op x.frm x.to x.pick hpick ta x.ks.length tc ba x.bn bc x.bs hbyt (fun b hb' hne => Nat.lt_of_lt_of_le (hlies b hb' hne) hww.size) (by omega) hbel hints (Nat.le_refl _) hxk
          have Hstep := Lib.hid hstep
          have lab : ab < wr.heap.size := by have := hwr.size; omega
          have hmL : L.length + 101 ≤ 60000 := by omega
          have hmn : now + 1 ≤ 1000 := by omega
          have HS := Lib.hid hS
          have Hbel := Lib.hid hbel
          clear hP hA hstep hints hbyt hlies hpick hbs hok hxk hxb ht hbb hx hwr hS hbel
          obtain ⟨op, frm, to, pick, tos, ks, bts, bn, bs⟩ := x
          simp only at *
          go_wp2_with fail
          (with_reducible refine Hstep.out.mono ?_)
          rintro e w5 ⟨rfl, now5, gs5, v5, L5, hN5, hR5, hC5, hL5, ht5, ht6, hb5⟩
          have hS5 : St w2.heap.size w5 (w2.heap.size + 1) w2.heap.size w3.heap.size nodes bound now5 gs5 v5 L5 := ⟨hN5, hR5, hC5, by omega, b2, ht5, by omega, by omega⟩
          obtain ⟨nn, hnn⟩ : ∃ nn : Nat, nodes = nn := ⟨nodes.toNat, by omega⟩
          have hl5 := links_true hS5 hnn (by omega)
          have Hl5 := Lib.hid hl5
          have HS5 := Lib.hid hS5
          have Hb5 := Lib.hid (Hbel.out.trans hb5)
          clear hN5 hR5 hC5 hb5 hS5 hl5 Hstep hnn
          go_wp2_with fail
          (with_reducible refine Hl5.out.mono ?_)
          rintro e w6 ⟨rfl, hg6⟩
          have Hrel : Hid (PlaysInv w2 (w2.heap.size + 1) w2.heap.size w3.heap.size nodes bound xs.length (.int .i64 ((i + 1 : Nat) : Int)) w6) := Lib.hid ⟨i + 1, now5, gs5, v5, L5, hlt, rfl, HS5.out.grow hg6, by omega, by omega, Hb5.out.trans (hg6.mono HS5.out.net.room)⟩
          clear hg6
          go_wp2
          go_roundw
          case rel => exact Hrel.out
          case measure => simp [intOf]; omega
        · have Hend : Hid (Grow w wr) := Lib.hid (hww.trans hbel)
          clear hS hbel
          go_wp2
          go_ret
          exact ⟨rfl, Hend.out⟩

set_option maxRecDepth 100000 in
set_option maxHeartbeats 4000000 in
theorem plays_nil (w : World) (nodes bound : Int) (a : Option Addr) (c : Nat) :
    Calls Try.prog 5 #[.int .i64 nodes, .int .i64 bound, .slice a 0 c] w (fun e w' => e = .returned (.bool true) ∧ Grow w w') := by
  go_enter Try.func5, Try.ntmps5
  go_wp2_with fail
  (with_reducible refine (known_true _).mono ?_)
  rintro e w1 ⟨rfl, hg1⟩
  go_wp2_with fail
  (with_reducible refine (few_nil _ _ _).mono ?_)
  rintro e w2 ⟨rb, rfl, hok, hg2⟩
  clear hok
  cases rb with
  | false =>
    go_wp2
    go_ret
    exact ⟨rfl, hg1.trans hg2⟩
  | true =>
    have hww : Grow w w2 := hg1.trans hg2
    by_cases hbad : BadNew nodes bound
    · have Hbad := Lib.hid hbad
      clear hbad
      go_wp2_with fail
      (with_reducible refine (new_bad _ _ _ Hbad.out).mono ?_)
      rintro e w3 ⟨rfl, rfl⟩
      go_wp2_with fail
      (with_reducible refine (ref_new_bad _ _ _ Hbad.out).mono ?_)
      rintro e w4 ⟨rfl, rfl⟩
      go_wp2
      go_ret
      exact ⟨rfl, hww⟩
    · unfold BadNew at hbad
      have n1 : 1 ≤ nodes := by omega
      have n2 : nodes ≤ 16 := by omega
      have b1 : 1 ≤ bound := by omega
      have b2 : bound ≤ 65536 := by omega
      clear hbad
      go_wp2_with fail
      (with_reducible refine (new_ok _ _ _ n1 n2 b1 b2).mono ?_)
      rintro e w3 ⟨rfl, rfl⟩
      have hg3 : Grow w2 ((w2.alloc (.map #[] 0)).alloc (.cells #[.int .i64 nodes, .int .i64 bound, .int .i64 0, .map (some w2.heap.size)] 49)) := by (repeat (first | exact Below.refl _ _ | assumption | refine Below.drew ?_ | refine bDrewN ?_ | refine Below.setCell ?_ (by first | omega | (simp <;> omega)) _ | refine Below.alloc ?_ (by first | omega | (simp <;> omega)) _))
      have Hg3 := Lib.hid hg3
      clear hg3
      go_wp2_with fail
      generalize (w2.alloc (.map #[] 0)).alloc (.cells #[.int .i64 nodes, .int .i64 bound, .int .i64 0, .map (some w2.heap.size)] 49) = w3 at *
      (with_reducible refine (ref_new_ok _ _ _ n1 n2 b1 b2).mono ?_)
      rintro e w4 ⟨rfl, rfl⟩
      go_wp2_with fail
      go_loopw [11] (fun vi wr => vi = .int .i64 0 ∧ Grow w wr) (fun _ _ => 0)
      case atStart => exact ⟨rfl, (hww.trans Hg3.out).trans (Grow.alloc _ _)⟩
      case round =>
        obtain ⟨rfl, hg⟩ := hrel
        go_wp2
        go_ret
        exact ⟨rfl, hg⟩

theorem plays_any {w : World} (nodes bound : Int) {v : Value} {xs : List ActD} (h : PActsAt w v xs) (hmax : xs.length ≤ 9223372036854775807) : Calls Try.prog 5 #[.int .i64 nodes, .int .i64 bound, v] w (fun e w' => e = .returned (.bool true) ∧ Grow w w') := by
  obtain ⟨a, c, rfl, hx⟩ := h
  cases xs with
  | nil => exact plays_nil w nodes bound a c
  | cons y ys =>
    rcases hx with hx | ⟨b, o, rfl, hb, ha⟩
    · cases hx
    · exact plays_some w nodes bound b o c (y :: ys) hb hmax ha
end Go.Proofs.Ytbanfilgokideaa
