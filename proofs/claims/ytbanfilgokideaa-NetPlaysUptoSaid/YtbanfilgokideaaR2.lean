/- The document's net: the message that a pick means. -/
import Derived.Test.YtbanfilgokideaaR1
namespace Go.Proofs.Ytbanfilgokideaa
open Go.RowKit Go.Gl

/-- What the document's 'meant' tells. -/
def RMeant (w : World) (f t pick : Int) (L : List RM) (e : Ending) (w' : World) : Prop :=
  ((ofL (f, t) L = [] ∧ e = .returned (.int .i64 (-1))) ∨ ∃ (i : Nat) (m : RM), e = .returned (.int .i64 i) ∧ L[i]? = some m ∧ m.frm = f ∧ m.to = t ∧ 0 < (ofL (f, t) L).length ∧ ((ofL (f, t) (L.take i)).length : Int) = max pick 0 % ((ofL (f, t) L).length : Int)) ∧ Grow w w'

def RMeantInv (w : World) (f t : Int) (L : List RM) (j : Nat) (pk i : Value) (wr : World) : Prop :=
  ∃ (n p : Nat), n ≤ L.length ∧ i = .int .i64 n ∧ pk = .int .i64 p ∧ (ofL (f, t) (L.take n)).length + p = j ∧ Grow w wr

theorem rem_of {a b c : Int} (h : 0 ≤ a) (hc : a % b = c) : a.tmod b = c := by rw [Int.tmod_eq_emod_of_nonneg h, hc]

set_option maxHeartbeats 1000000 in
theorem rmeant_any {B : Nat} {w : World} {q : Nat} {nodes bound time : Int} {v : Value} {L : List RM} (h : RefAt B w q nodes bound time v L) (hmax : L.length ≤ 1000000000000000) (f t pick : Int) (hpk : pick ≤ 9223372036854775807) :
    Calls Try.prog 34 #[.pointer (some ⟨q, 0, none⟩), .int .i64 f, .int .i64 t, .int .i64 pick] w (RMeant w f t pick L) := by
  obtain ⟨k0, k1, k2, k3⟩ := h.cells
  obtain ⟨a, c, rfl, hrow⟩ := h.form
  have hq : q < w.heap.size := lt_of_getElem? h.self
  have Hcl := Lib.hid (Grow.cells (w := w))
  have Hrow := Lib.hid hrow
  have H := Lib.hid h
  have hnl : (ofL (f, t) L).length ≤ L.length := List.length_filter_le _ _
  obtain ⟨n, hn⟩ : ∃ n, n = (ofL (f, t) L).length := ⟨_, rfl⟩
  have Hn := Lib.hid hn
  rw [← hn] at hnl
  clear h hrow hn
  go_enter Try.func34, Try.ntmps34
  go_wp2_with fail
  (with_reducible refine (count_any H.out hmax _ _).mono ?_)
  rw [← Hn.out]
  rintro e w1 ⟨rfl, hg1⟩
  by_cases hn0 : n = 0
  · subst hn0
    go_wp2
    go_ret
    exact ⟨.inl ⟨List.length_eq_zero_iff.1 Hn.out.symm, rfl⟩, hg1⟩
  · have hz : ((n : Int) == 0) = false := by simp; omega
    have hnp : 0 < (n : Int) := by omega
    obtain ⟨j, hj⟩ : ∃ j : Nat, max pick 0 % (n : Int) = j := ⟨(max pick 0 % (n : Int)).toNat, by rw [Int.toNat_of_nonneg (Int.emod_nonneg _ (by omega))]⟩
    have hjn : j < n := by have := Int.emod_lt_of_pos (max pick 0) hnp; omega
    have Hj := Lib.hid hj
    by_cases hp : pick < 0
    · have hp' : decide (pick < 0) = true := by simp [hp]
      have hj0 : j = 0 := by
        have : max pick 0 = 0 := by omega
        rw [this] at hj; simp at hj; omega
      have hjv : (j : Int) = 0 := by omega
      clear hj
      go_wp2
      go_loopw [3, 10] (fun pk i wr => RMeantInv w f t L j pk i wr) (fun _ i _ => L.length - (intOf i).toNat)
      case atStart => exact ⟨0, j, Nat.zero_le _, rfl, by simp only [hjv], by simp [ofL], hg1⟩
      case round =>
        obtain ⟨k, p, hk, rfl, rfl, hsum, hg⟩ := hrel
        have d0 := Hcl.out wr q 3 hg hq
        rw [k3] at d0
        by_cases hlt : k < L.length
        · obtain ⟨m, hm⟩ : ∃ m, L[k]? = some m := ⟨L[k], by simp [hlt]⟩
          obtain ⟨g, rfl, hgs, hcs⟩ := Hrow.out (by omega)
          obtain ⟨c0, c1, c2⟩ := hcs k m hm
          rw [← Hcl.out wr _ _ hg hgs] at c0 c1 c2
          have hlt' : (k : Int) < (L.length : Int) := by omega
          have hk0 : (0 : Int) ≤ (k : Int) := by omega
          have hsn := ofL_snoc (f, t) (L.take k) m
          rw [← take_snoc hm] at hsn
          have hnx : (ofL (f, t) (L.take (k + 1))).length = if (decide (m.frm = f) && decide (m.to = t)) = true then (ofL (f, t) (L.take k)).length + 1 else (ofL (f, t) (L.take k)).length := by
            rw [hsn]; split <;> simp
          have Hnx := Lib.hid hnx
          have Hm := Lib.hid hm
          have Hsum := Lib.hid hsum
          have hpb : p ≤ j := by omega
          clear hsn hnx hcs hm hsum
          by_cases h1 : m.frm = f
          · have hb : (m.frm == f) = true := by simp [h1]
            have H1 := Lib.hid h1
            by_cases h2 : m.to = t
            · have hb2 : (m.to == t) = true := by simp [h2]
              have H2 := Lib.hid h2
              by_cases h3 : p = 0
              · have hp0 : ((p : Int) == 0) = true := by simp [h3]
                have H3 := Lib.hid h3
                clear h1 h2 h3
                go_wp2
                go_ret
                refine ⟨.inr ⟨k, m, rfl, Hm.out, H1.out, H2.out, by rw [← Hn.out]; omega, ?_⟩, hg⟩
                rw [← Hn.out, Hj.out, ← Hsum.out, H3.out]; rfl
              · exfalso; omega
            · have hb2 : (m.to == t) = false := by simp [h2]
              have Hfin : Hid ((ofL (f, t) (L.take (k + 1))).length + p = j) := Lib.hid (by rw [Hnx.out]; simp [h2]; exact Hsum.out)
              clear h1 h2
              go_wp2
              go_roundw
              case rel => exact ⟨k + 1, p, hlt, rfl, rfl, Hfin.out, hg⟩
              case measure => simp [intOf]; omega
          · have hb : (m.frm == f) = false := by simp [h1]
            have Hfin : Hid ((ofL (f, t) (L.take (k + 1))).length + p = j) := Lib.hid (by rw [Hnx.out]; simp [h1]; exact Hsum.out)
            clear h1
            go_wp2
            go_roundw
            case rel => exact ⟨k + 1, p, hlt, rfl, rfl, Hfin.out, hg⟩
            case measure => simp [intOf]; omega
        · obtain rfl : k = L.length := by omega
          rw [List.take_length, ← Hn.out] at hsum
          omega
    · have hp' : decide (pick < 0) = false := by simp [hp]
      have hjv : (j : Int) = pick % (n : Int) := by
        have : max pick 0 = pick := by omega
        rw [this] at hj; exact hj.symm
      clear hj
      go_wp2
      go_loopw [3, 10] (fun pk i wr => RMeantInv w f t L j pk i wr) (fun _ i _ => L.length - (intOf i).toNat)
      case atStart => exact ⟨0, j, Nat.zero_le _, rfl, by simp only [hjv], by simp [ofL], hg1⟩
      case round =>
        obtain ⟨k, p, hk, rfl, rfl, hsum, hg⟩ := hrel
        have d0 := Hcl.out wr q 3 hg hq
        rw [k3] at d0
        by_cases hlt : k < L.length
        · obtain ⟨m, hm⟩ : ∃ m, L[k]? = some m := ⟨L[k], by simp [hlt]⟩
          obtain ⟨g, rfl, hgs, hcs⟩ := Hrow.out (by omega)
          obtain ⟨c0, c1, c2⟩ := hcs k m hm
          rw [← Hcl.out wr _ _ hg hgs] at c0 c1 c2
          have hlt' : (k : Int) < (L.length : Int) := by omega
          have hk0 : (0 : Int) ≤ (k : Int) := by omega
          have hsn := ofL_snoc (f, t) (L.take k) m
          rw [← take_snoc hm] at hsn
          have hnx : (ofL (f, t) (L.take (k + 1))).length = if (decide (m.frm = f) && decide (m.to = t)) = true then (ofL (f, t) (L.take k)).length + 1 else (ofL (f, t) (L.take k)).length := by
            rw [hsn]; split <;> simp
          have Hnx := Lib.hid hnx
          have Hm := Lib.hid hm
          have Hsum := Lib.hid hsum
          have hpb : p ≤ j := by omega
          clear hsn hnx hcs hm hsum
          by_cases h1 : m.frm = f
          · have hb : (m.frm == f) = true := by simp [h1]
            have H1 := Lib.hid h1
            by_cases h2 : m.to = t
            · have hb2 : (m.to == t) = true := by simp [h2]
              have H2 := Lib.hid h2
              by_cases h3 : p = 0
              · have hp0 : ((p : Int) == 0) = true := by simp [h3]
                have H3 := Lib.hid h3
                clear h1 h2 h3
                go_wp2
                go_ret
                refine ⟨.inr ⟨k, m, rfl, Hm.out, H1.out, H2.out, by rw [← Hn.out]; omega, ?_⟩, hg⟩
                rw [← Hn.out, Hj.out, ← Hsum.out, H3.out]; rfl
              · obtain ⟨p', rfl⟩ : ∃ p', p = p' + 1 := ⟨p - 1, by omega⟩
                have hp0 : (((p' + 1 : Nat) : Int) == 0) = false := by simp; omega
                have hw1 : IntKind.i64.wrap (((p' + 1 : Nat) : Int) - 1) = (p' : Int) := by rw [IntWalk.i64_in _ (by omega)]; omega
                have Hfin : Hid ((ofL (f, t) (L.take (k + 1))).length + p' = j) := Lib.hid (by rw [Hnx.out]; simp [h1, h2]; have := Hsum.out; omega)
                obtain ⟨z, hz⟩ : ∃ z : Int, z = ((p' + 1 : Nat) : Int) := ⟨_, rfl⟩
                rw [← hz] at hp0 hw1 ⊢
                have hzb : z - 1 ≤ 9223372036854775807 := by omega
                have hzb2 : 0 ≤ z - 1 := by omega
                clear h1 h2 h3 hz
                go_wp2
                go_roundw
                case rel => exact ⟨k + 1, p', hlt, rfl, by first | rfl | (congr 1; omega), Hfin.out, hg⟩
                case measure => simp [intOf]; omega
            · have hb2 : (m.to == t) = false := by simp [h2]
              have Hfin : Hid ((ofL (f, t) (L.take (k + 1))).length + p = j) := Lib.hid (by rw [Hnx.out]; simp [h2]; exact Hsum.out)
              clear h1 h2
              go_wp2
              go_roundw
              case rel => exact ⟨k + 1, p, hlt, rfl, rfl, Hfin.out, hg⟩
              case measure => simp [intOf]; omega
          · have hb : (m.frm == f) = false := by simp [h1]
            have Hfin : Hid ((ofL (f, t) (L.take (k + 1))).length + p = j) := Lib.hid (by rw [Hnx.out]; simp [h1]; exact Hsum.out)
            clear h1
            go_wp2
            go_roundw
            case rel => exact ⟨k + 1, p, hlt, rfl, rfl, Hfin.out, hg⟩
            case measure => simp [intOf]; omega
        · obtain rfl : k = L.length := by omega
          rw [List.take_length, ← Hn.out] at hsum
          omega
end Go.Proofs.Ytbanfilgokideaa
