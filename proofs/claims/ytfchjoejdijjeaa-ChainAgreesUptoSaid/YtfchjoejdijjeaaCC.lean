/- Merged out of A1: helpers. -/
import Derived.Test.YtfchjoejdijjeaaCB
import Derived.Lib.AtoiErrMem
set_option linter.unusedSimpArgs false
set_option linter.unusedVariables false
/- Program codec: Number, ReadNumber, Bytes, ReadBytes, Clone. -/
namespace Go.Proofs.Ytfchjoejdijjeaa
open Go.RowKit Go.Gl Go.Wal

theorem or128 (m : Nat) : bits .or .u8 ((m : Int) % 256) 128 = (((UInt8.ofNat (m % 128 + 128)).toNat : Nat) : Int) := by
  have h1 : ((m : Int) % 256) = ((m % 256 : Nat) : Int) := by omega
  have h2 : bits .or .u8 ((m % 256 : Nat) : Int) 128 = ((m % 256 ||| 128 : Nat) : Int) := u8_or_nat (m % 256) 128 (by omega) (by decide)
  rw [h1, h2, UInt8.toNat_ofNat_of_lt' (by simp [UInt8.size]; omega)]
  congr 1
  have : ∀ x : Nat, x < 256 → x ||| 128 = x % 128 + 128 := by decide +kernel
  rw [this _ (by omega)]
  omega

theorem Bv.slice {w : World} {v : Value} {l : List UInt8} (h : Bv w v l) : ∃ a c, v = .slice a l.length c := by
  obtain ⟨a, c, h, _⟩ := h; exact ⟨a, c, h⟩

def RnInv (w : World) (l : List UInt8) (vv iv : Value) (wr : World) : Prop :=
  ∃ i v : Nat, iv = .int .i64 i ∧ i ≤ l.length ∧ vv = .int .u64 v ∧ v < 128 ^ i ∧ i ≤ 9 ∧ rnD l = rnF i v (l.drop i) ∧ wr = w

theorem rn_step {l : List UInt8} {i v : Nat} {c : UInt8} (h : l[i]? = some c) : rnF i v (l.drop i) =
    if i = 9 ∧ 1 < c.toNat then (0, 0, 12) else
    if c.toNat < 128 then (if c.toNat = 0 ∧ 0 < i then (0, 0, 12) else (v + c.toNat * 128 ^ i, i + 1, 0)) else
    rnF (i + 1) (v + (c.toNat - 128) * 128 ^ i) (l.drop (i + 1)) := by
  obtain ⟨hi, rfl⟩ := List.getElem?_eq_some_iff.1 h
  rw [List.drop_eq_getElem_cons hi, rnF]

theorem pow128 (i : Nat) : 128 ^ i = 2 ^ (7 * i) := by
  rw [Nat.pow_mul]

theorem or_join {v x i : Nat} (hi : i ≤ 9) (hv : v < 128 ^ i) (hfit : x * 128 ^ i < 18446744073709551616) : bits .or .u64 (v : Int) ((x * 128 ^ i : Nat) : Int) = ((v + x * 128 ^ i : Nat) : Int) := by
  have hle : 128 ^ i ≤ 128 ^ 9 := Nat.pow_le_pow_right (by decide) hi
  rw [u64_or_nat v (x * 128 ^ i) (by omega) hfit]
  congr 1
  rw [Nat.or_comm, Nat.add_comm v, pow128]
  rw [pow128] at hv
  exact nat_join (7 * i) (x * 2 ^ (7 * i)) v (Nat.mul_mod_left _ _) hv

theorem or_shape {v k i : Nat} (hi : i ≤ 9) (hv : v < 128 ^ i) (hfit : k % 128 * 128 ^ i < 18446744073709551616) : bits .or .u64 (v : Int) (IntKind.u64.wrap ((k : Int) % 128 * 2 ^ (7 * i))) = ((v + k % 128 * 128 ^ i : Nat) : Int) := by
  have e : (k : Int) % 128 * 2 ^ (7 * i) = ((k % 128 * 128 ^ i : Nat) : Int) := by rw [pow128]; simp
  have hw : IntKind.u64.wrap ((k % 128 * 128 ^ i : Nat) : Int) = ((k % 128 * 128 ^ i : Nat) : Int) := by
    generalize k % 128 * 128 ^ i = z at *
    simp [IntKind.wrap, IntKind.bits, IntKind.signed]; omega
  rw [e, hw]
  exact or_join hi hv hfit

set_option maxRecDepth 100000 in
set_option maxHeartbeats 4000000 in
theorem readNumber_any {w : World} {bv : Value} {l : List UInt8} (h : Bv w bv l) :
    Calls Try.prog 68 #[bv] w fun e w' => e = .returned (.tuple #[.int .u64 ((rnD l).1 : Nat), .int .i64 ((rnD l).2.1 : Nat), .int .i64 ((rnD l).2.2 : Nat)]) ∧ w' = w := by
  obtain ⟨ba, bc, rfl, hlc, hm, hn, h⟩ := h
  have H := Lib.hid h
  clear h
  go_enter Try.func68, Try.ntmps68
  go_wp2_with fail
  go_loopw [5, 10] (fun vv iv wr => RnInv w l vv iv wr) (fun _ iv _ => l.length - (intOf iv).toNat)
  case atStart => exact ⟨0, 0, rfl, Nat.zero_le _, rfl, by decide, by decide, rfl, rfl⟩
  case round =>
    obtain ⟨i, v, rfl, hi, rfl, hv, hi9, hrn, hwr⟩ := hrel
    have hwr' := hwr.symm
    subst hwr'
    clear hwr
    by_cases hlt : i < l.length
    · obtain ⟨c, hc⟩ : ∃ c, l[i]? = some c := ⟨l[i], by simp [hlt]⟩
      obtain ⟨b, o, rfl, lb, hcs⟩ : ∃ b o, ba = some ⟨b, o, none⟩ ∧ b < w.heap.size ∧ ∀ (j : Nat) (k : UInt8), l[j]? = some k → w.cell? ⟨b, o + j, none⟩ = some (.int .u8 k.toNat) := by
        rcases H.out with h1 | h1
        · rw [h1] at hlt; simp at hlt
        · exact h1
      have ck := hcs i c hc
      rw [rn_step hc] at hrn
      have hc256 := c.toNat_lt
      have hi1 : (i : Int) < (l.length : Int) := by omega
      have hi0 : (0 : Int) ≤ (i : Int) := by omega
      have hwi : IntKind.i64.wrap ((i : Int) + 1) = (i : Int) + 1 := IntWalk.i64_in _ (by omega)
      have hw7 : IntKind.i64.wrap (7 * (i : Int)) = 7 * (i : Int) := IntWalk.i64_in _ (by omega)
      generalize c.toNat = k at *
      have x1 : bits .and .u8 (k : Int) 127 = ((k % 128 : Nat) : Int) := by
        have := u8_and_nat k 127 (by omega) (by decide)
        rw [show (k &&& 127) = k % 128 from Nat.and_two_pow_sub_one_eq_mod k 7] at this
        exact this
      have Hrn := Lib.hid hrn
      clear hrn hc hcs
      by_cases h9 : i = 9 ∧ 1 < k
      · have e9 : ((i : Int) == 9) = true := by simp; omega
        have e1 : decide ((1 : Int) < (k : Int)) = true := by simp; omega
        have Hres : Hid (rnD l = (0, 0, 12)) := Lib.hid (by rw [Hrn.out, if_pos h9])
        clear h9
        go_wp2
        go_ret3
        rw [Hres.out]
        exact ⟨rfl, rfl⟩
      · have e9 : ((i : Int) == 9) = true → decide ((1 : Int) < (k : Int)) = false := by simp; omega
        have hx : k % 128 * 128 ^ i < 18446744073709551616 := by
          by_cases hi8 : i ≤ 8
          · have h1 : 128 ^ i ≤ 128 ^ 8 := Nat.pow_le_pow_right (by decide) hi8
            have h2 : k % 128 * 128 ^ i ≤ 127 * 128 ^ 8 := Nat.mul_le_mul (by omega) h1
            omega
          · obtain rfl : i = 9 := by omega
            have : k % 128 ≤ 1 := by omega
            have h2 : k % 128 * 128 ^ 9 ≤ 1 * 128 ^ 9 := Nat.mul_le_mul_right _ this
            omega
        have x2 := or_shape hi9 hv hx
        have X2 := Lib.hid x2
        clear x2
        rw [if_neg h9] at Hrn
        by_cases h128 : k < 128
        · rw [if_pos h128] at Hrn
          have hmod : k % 128 = k := Nat.mod_eq_of_lt h128
          rw [hmod] at X2
          have e128 : decide ((k : Int) < 128) = true := by simp; omega
          by_cases hz : k = 0 ∧ 0 < i
          · have Hres : Hid (rnD l = (0, 0, 12)) := Lib.hid (by rw [Hrn.out, if_pos hz])
            have ez : ((k : Int) == 0) = true := by simp; omega
            have ei : decide (0 < i) = true := by simp; omega
            have ei2 : 0 < i := hz.2
            clear hz hmod
            cases e91 : ((i : Int) == 9) with
            | true =>
              have e1 := e9 e91
              go_wp2
              go_ret3
              rw [Hres.out]
              exact ⟨rfl, rfl⟩
            | false =>
              go_wp2
              go_ret3
              rw [Hres.out]
              exact ⟨rfl, rfl⟩
          · have Hres : Hid (rnD l = (v + k * 128 ^ i, i + 1, 0)) := Lib.hid (by rw [Hrn.out, if_neg hz])
            clear hmod
            by_cases hk0 : k = 0
            · have ei : decide (0 < i) = false := by simp; omega
              have ei2 : ¬ 0 < i := by omega
              have ez : ((k : Int) == 0) = true := by simp; omega
              clear hk0
              cases e91 : ((i : Int) == 9) with
              | true =>
                have e1 := e9 e91
                go_wp2
                refine bodyPost_ret (v := .tuple #[.int .u64 ((rnD l).1 : Nat), .int .i64 ((rnD l).2.1 : Nat), .int .i64 ((rnD l).2.2 : Nat)]) ?_ rfl ⟨rfl, rfl⟩
                rw [Hres.out]
                simp only [← X2.out]
                simp [results, Try.results68, go_sem]
              | false =>
                go_wp2
                refine bodyPost_ret (v := .tuple #[.int .u64 ((rnD l).1 : Nat), .int .i64 ((rnD l).2.1 : Nat), .int .i64 ((rnD l).2.2 : Nat)]) ?_ rfl ⟨rfl, rfl⟩
                rw [Hres.out]
                simp only [← X2.out]
                simp [results, Try.results68, go_sem]
            · skip
              have ez : ((k : Int) == 0) = false := by simp; omega
              cases e91 : ((i : Int) == 9) with
              | true =>
                have e1 := e9 e91
                go_wp2
                refine bodyPost_ret (v := .tuple #[.int .u64 ((rnD l).1 : Nat), .int .i64 ((rnD l).2.1 : Nat), .int .i64 ((rnD l).2.2 : Nat)]) ?_ rfl ⟨rfl, rfl⟩
                rw [Hres.out]
                simp only [← X2.out]
                simp [results, Try.results68, go_sem]
              | false =>
                go_wp2
                refine bodyPost_ret (v := .tuple #[.int .u64 ((rnD l).1 : Nat), .int .i64 ((rnD l).2.1 : Nat), .int .i64 ((rnD l).2.2 : Nat)]) ?_ rfl ⟨rfl, rfl⟩
                rw [Hres.out]
                simp only [← X2.out]
                simp [results, Try.results68, go_sem]
        · have hi8 : i ≤ 8 := by omega
          have e91 : ((i : Int) == 9) = false := by simp; omega
          have e128 : decide ((k : Int) < 128) = false := by simp; omega
          have Hmod : Hid (k % 128 = k - 128) := Lib.hid (by omega)
          rw [if_neg h128] at Hrn
          go_wp2
          go_roundw
          case rel =>
            rw [X2.out]
            refine ⟨i + 1, _, by simp, hlt, rfl, ?_, by omega, by rw [Hrn.out, Hmod.out], rfl⟩
            have h1 : k % 128 * 128 ^ i ≤ 127 * 128 ^ i := Nat.mul_le_mul_right _ (by omega)
            rw [Nat.pow_succ]
            omega
          case measure => simp [intOf]; omega
    · obtain rfl : i = l.length := by omega
      have Hres : Hid (rnD l = (0, 0, 11)) := Lib.hid (by rw [hrn, List.drop_length]; rfl)
      clear hrn
      go_wp2
      go_ret3
      rw [Hres.out]
      exact ⟨rfl, rfl⟩

set_option maxHeartbeats 400000 in
theorem clone_any {w : World} {v : Value} {l : List UInt8} (h : Bv w v l) (hmax : l.length ≤ 140737488355328) :
    Calls Try.prog 58 #[v] w fun e w' => ∃ v', e = .returned v' ∧ OwnB w.heap.size w' v' l ∧ Grow w w' := by
  have hga : Grow w (w.alloc (.cells #[] 5)) := Grow.alloc _ _
  have hrow : OwnB w.heap.size (w.alloc (.cells #[] 5)) (.slice (some ⟨w.heap.size, 0, none⟩) 0 0) [] := .inr ⟨w.heap.size, 0, #[], rfl, Nat.le_refl _, heap_alloc_new _ _, Nat.le_refl _, Nat.le_refl _, Nat.zero_le _, rfl⟩
  obtain ⟨v', w', h1, h2, h3, _⟩ := append_bytes hrow (h.grow hga) (by simp) (by simpa using hmax)
  have hgr : Grow w w' := below_grown hga (by simp) hrow h3
  have Hrun := Lib.hid h1
  have Hpost := Lib.hid h2
  have Hgr := Lib.hid hgr
  obtain ⟨a, c, rfl, _, _, hn, _⟩ := h
  have h0 := @Lib.run_eql_slice_nil Try.prog
  cases a with
  | none =>
    have hc := hn rfl
    have : l = [] := by
      rename_i hlc _ _
      exact List.eq_nil_of_length_eq_zero (by omega)
    subst this
    subst hc
    clear h1 h2 h3 hgr hrow hga
    go_enter Try.func58, Try.ntmps58
    go_wp2
    go_ret
    exact ⟨_, rfl, row1_nil _ _ _, Grow.refl _⟩
  | some a =>
    clear h1 h2 h3 hgr hrow hga hn
    go_enter Try.func58, Try.ntmps58
    go_wp2_with (at_builtin; refine wpList_append rfl rfl rfl rfl Hrun.out ?_)
    go_ret
    exact ⟨_, rfl, Hpost.out, Hgr.out⟩

theorem bv_cut {w : World} {a : Option Addr} {c : Nat} {l : List UInt8} (h : Bv w (.slice a l.length c) l) {i j : Nat} (hij : i ≤ j) (hj : j ≤ l.length) : Bv w (.slice (if c = i then a else a.map (fun x => x.add i)) (j - i) (c - i)) ((l.drop i).take (j - i)) := by
  obtain ⟨a', c', he, hlc, hm, hn, h⟩ := h
  cases he
  have hlen : ((l.drop i).take (j - i)).length = j - i := by simp; omega
  refine ⟨_, c - i, by rw [hlen], by rw [hlen]; omega, by omega, ?_, ?_⟩
  · intro h0
    split at h0
    · omega
    · cases a with
      | none => have := hn rfl; omega
      | some x => cases h0
  · by_cases hz : (l.drop i).take (j - i) = []
    · exact .inl hz
    · right
      have hlt : i < j := by
        rcases Nat.lt_or_ge i j with h1 | h1
        · exact h1
        · exfalso; apply hz; rw [show j - i = 0 by omega]; simp
      rcases h with rfl | ⟨b, o, rfl, hb, hc⟩
      · simp at hj; omega
      · rw [if_neg (by omega)]
        refine ⟨b, o + i, by show some (Addr.add ⟨b, o, none⟩ i) = _; rw [Addr.add_lit], hb, fun q k hk => ?_⟩
        rw [List.getElem?_take] at hk
        split at hk
        · rw [List.getElem?_drop] at hk
          have := hc (i + q) k hk
          rw [Nat.add_assoc]
          exact this
        · cases hk

theorem OwnB.slice {B : Nat} {w : World} {v : Value} {l : List UInt8} (h : OwnB B w v l) : ∃ a c, v = .slice a l.length c := by
  have := Row1.slice h
  rw [bcells_len] at this
  exact this

/-- 'append' behind a slice that is full. -/
theorem append_cap {w : World} {a : Option Addr} {l p : List UInt8} {pv : Value} (h : Bv w (.slice a l.length l.length) l) (hp : Bv w pv p) (hpos : 0 < p.length) (hlen : l.length + p.length ≤ 140737488355328) :
    ∃ v' w', (Builtin.append_ #[28, 28] 28 #[.slice a l.length l.length, pv]).run Try.prog w = .ok v' w' ∧ OwnB w.heap.size w' v' (l ++ p) ∧ Grow w w' := by
  obtain ⟨i, hi0, hzz, hsz, hbb⟩ := info_parts Try.infoB
  have hs' : Src Try.prog i.size 28 pv p.length (bcells p) w := by rw [hsz]; exact hp.src
  have hold : (Builtin.firstCells i.size l.length (.slice a l.length l.length)).run Try.prog w.drew = .ok (bcells l).toArray w.drew := by rw [hsz]; exact h.src.cellsD
  have hr := run_append_grow_src w 28 28 28 5 i _ Try.underlying28 hi0 hzz a l.length l.length (bcells l) hold pv p.length (bcells p) hs' (by omega) (by omega) (by rw [hbb]; exact growslice_fits (by omega) (by simpa using hlen))
  have hge := grownCap_ge w (l.length + p.length) l.length 5
  have hcm : grownCap w (l.length + p.length) l.length 5 ≤ maxLen := grownCap_le_maxLen w (l.length + p.length) l.length 5 (by unfold maxLen; omega)
  refine ⟨_, _, hr, ?_, ⟨rfl, rfl, rfl, by simp, fun k hk => heap_alloc_old w.drew _ hk⟩⟩
  have e : bcells l ++ bcells p = bcells (l ++ p) := (bcells_append l p).symm
  refine .inr ⟨w.heap.size, _, _, by rw [bcells_len, List.length_append], Nat.le_refl _, heap_alloc_new w.drew _, by rw [bcells_len, List.length_append]; exact hge, ?_, hcm, ?_⟩
  · have hz1 : (Value.cells (.int .u8 0)).size = 1 := rfl
    simp only [Array.size_append, List.size_toArray, size_zeroCells, hz1, List.length_append, bcells_len]
    omega
  · simp only [Array.toList_append]
    rw [e]
    exact List.take_left

/-- Bytes of one's own, or a slice that is full: what an append does not write into what others see. -/
def Ext (B : Nat) (w : World) (v : Value) (l : List UInt8) : Prop := OwnB B w v l ∨ ∃ a, v = .slice a l.length l.length ∧ Bv w v l

theorem Ext.slice {B : Nat} {w : World} {v : Value} {l : List UInt8} (h : Ext B w v l) : ∃ a c, v = .slice a l.length c := by
  rcases h with h | ⟨a, h, _⟩
  · exact h.slice
  · exact ⟨a, _, h⟩

theorem ext_byte {B : Nat} {w : World} {v : Value} {l : List UInt8} (h : Ext B w v l) (x : UInt8) {n : Int} (hx : n = (x.toNat : Int)) (hB : B ≤ w.heap.size) (hlen : l.length + 1 ≤ 140737488355328) :
    ∃ v' w', (Builtin.append_ #[28, 28] 28 #[v, .slice (some ⟨w.heap.size, 0, none⟩) 1 1]).run Try.prog (w.alloc (.cells #[.int .u8 n] 5)) = .ok v' w' ∧ OwnB B w' v' (l ++ [x]) ∧ Below B w w' := by
  rcases h with h | ⟨a, rfl, h⟩
  · exact append_byte h x hx hB hlen
  · subst hx
    have hb : Bv (w.alloc (.cells #[.int .u8 x.toNat] 5)) (.slice (some ⟨w.heap.size, 0, none⟩) 1 1) [x] := by
      refine ⟨some ⟨w.heap.size, 0, none⟩, 1, rfl, Nat.le_refl _, by decide, (fun h => by cases h), .inr ⟨w.heap.size, 0, rfl, by simp, fun j k hk => ?_⟩⟩
      match j, hk with
      | 0, hk =>
        cases hk
        simp only [World.cell?, heap_alloc_new]
        rfl
      | j + 1, hk => simp at hk
    have hga : Grow w (w.alloc (.cells #[.int .u8 x.toNat] 5)) := Grow.alloc _ _
    obtain ⟨v', w', h1, h2, h3⟩ := append_cap (h.grow hga) hb (by simp) (by simpa using hlen)
    exact ⟨v', w', h1, h2.mono (Nat.le_trans hB hga.size), (hga.trans h3).mono hB⟩

theorem clip_any {w : World} {v : Value} {l : List UInt8} (h : Bv w v l) : Calls Try.prog 71 #[v] w fun e w' => ∃ a, e = .returned (.slice a l.length l.length) ∧ Bv w (.slice a l.length l.length) l ∧ w' = w := by
  obtain ⟨a, c, rfl, h1, h2, h3, h4⟩ := h
  have hb : Bv w (.slice a l.length l.length) l := ⟨a, l.length, rfl, Nat.le_refl _, Nat.le_trans h1 h2, fun e => by have := h3 e; omega, h4⟩
  have Hb := Lib.hid hb
  cases a with
  | none =>
    have := h3 rfl
    have hl : l = [] := List.eq_nil_of_length_eq_zero (by omega)
    subst this hl
    clear h1 h2 h3 h4 hb
    go_enter Try.func71, Try.ntmps71
    go_wp2
    go_ret
    exact ⟨none, rfl, Hb.out, rfl⟩
  | some x =>
    clear h2 h3 h4 hb
    go_enter Try.func71, Try.ntmps71
    go_wp2
    go_ret
    exact ⟨_, rfl, Hb.out, rfl⟩

def NumJ (w : World) (l : List UInt8) (n : Nat) (bv vv : Value) (wr : World) : Prop :=
  ∃ (pre : List UInt8) (m k : Nat), vv = .int .u64 m ∧ Ext w.heap.size wr bv (l ++ pre) ∧ m < 128 ^ (k + 1) ∧ pre.length + (k + 1) = 10 ∧ numD n = pre ++ numF (k + 1) m ∧ m < 18446744073709551616 ∧ Grow w wr

set_option maxRecDepth 100000 in
set_option maxHeartbeats 4000000 in
theorem number_any {w : World} {bv : Value} {l : List UInt8} (h : Bv w bv l) (hl : l.length ≤ 1000000000000) {n : Nat} (hn : n < 18446744073709551616) :
    Calls Try.prog 56 #[bv, .int .u64 n] w fun e w' => ∃ v, e = .returned v ∧ OwnB w.heap.size w' v (l ++ numD n) ∧ Grow w w' := by
  have Hc := Lib.hid (clip_any h)
  obtain ⟨xa, xc, rfl⟩ := h.slice
  clear h
  go_enter Try.func56, Try.ntmps56
  go_wp2_with fail
  (with_reducible refine Hc.out.mono ?_)
  rintro e w1 ⟨ca, rfl, ho1, hw1⟩
  have hw2 := hw1.symm
  subst hw2
  clear hw1 Hc
  have Hst : Hid (NumJ w l n (.slice ca l.length l.length) (.int .u64 n) w) := Lib.hid ⟨[], n, 9, rfl, .inr ⟨ca, by simp, by simpa using ho1⟩, by omega, rfl, rfl, hn, Grow.refl _⟩
  clear ho1
  go_wp2_with fail
  go_loopw [0, 1] (fun bv vv wr => NumJ w l n bv vv wr) (fun _ vv _ => (intOf vv).toNat)
  case atStart => exact Hst.out
  case round =>
    obtain ⟨pre, m, k, rfl, hown, hm, hk, hnum, hm64, hg⟩ := hrel
    have hgs := hg.size
    have hll : (l ++ pre).length + 1 ≤ 140737488355328 := by simp; omega
    obtain ⟨ba, bc, rfl⟩ := hown.slice
    by_cases hlt : 128 ≤ m
    · have hge : decide ((128 : Int) ≤ (m : Int)) = true := by simp; omega
      have hk1 : 0 < k := by
        rcases Nat.eq_zero_or_pos k with rfl | h1
        · simp at hm; omega
        · exact h1
      obtain ⟨k', rfl⟩ : ∃ k', k = k' + 1 := ⟨k - 1, by omega⟩
      obtain ⟨v', w', h1, h2, h3⟩ := ext_byte hown (UInt8.ofNat (m % 128 + 128)) (or128 m) hgs hll
      have Hrun := Lib.hid h1
      have hrel : NumJ w l n v' (.int .u64 ((m : Int) / 128)) w' := by
        refine ⟨pre ++ [UInt8.ofNat (m % 128 + 128)], m / 128, k', by simp, .inl (by rw [← List.append_assoc]; exact h2), ?_, by simp; omega, ?_, by omega, Below.trans hg h3⟩
        · rw [Nat.pow_succ] at hm; exact Nat.div_lt_of_lt_mul (by rw [Nat.mul_comm]; exact hm)
        · rw [hnum, numF, if_neg (by omega)]; simp
      have Hrel := Lib.hid hrel
      clear h1 h2 h3 hrel hown hnum hm hk hg hgs hll
      go_wp2_with (at_builtin; refine wpList_append rfl rfl rfl rfl Hrun.out ?_)
      go_roundw
      case rel => exact Hrel.out
      case measure => simp [intOf]; omega
    · have hge : decide ((128 : Int) ≤ (m : Int)) = false := by simp; omega
      have hx : (m : Int) = (((UInt8.ofNat m).toNat : Nat) : Int) := by rw [UInt8.toNat_ofNat_of_lt' (by simp [UInt8.size]; omega)]
      obtain ⟨v', w', h1, h2, h3⟩ := ext_byte hown (UInt8.ofNat m) hx hgs hll
      have Hrun := Lib.hid h1
      have hpost : OwnB w.heap.size w' v' (l ++ numD n) := by
        rw [hnum, numF, if_pos (by omega), ← List.append_assoc]; exact h2
      have Hpost := Lib.hid hpost
      have Hg := Lib.hid (Below.trans hg h3)
      clear h1 h2 h3 hown hnum hm hk hg hpost hx hgs hll
      go_wp2_with (at_builtin; refine wpList_append rfl rfl rfl rfl Hrun.out ?_)
      go_ret
      exact ⟨_, rfl, Hpost.out, Hg.out⟩

/-- A text behind its length. -/
def bytesD (x : List UInt8) : List UInt8 := numD x.length ++ x

set_option maxRecDepth 100000 in
set_option maxHeartbeats 4000000 in
theorem csize_one {w : World} {qb : Nat} {pv : Value} {x : List UInt8} (hq : w.heap[qb]? = some (.cells #[pv] 28 (0, 0))) (hx : Bv w pv x) (hl : x.length ≤ 1000000000000) :
    Calls Try.prog 72 #[.slice (some ⟨qb, 0, none⟩) 1 1] w fun e w' => e = .returned (.int .i64 x.length) ∧ w' = w := by
  have c0 : w.cell? ⟨qb, 0, none⟩ = some pv := by simp [World.cell?, hq]
  have lq := lt_of_getElem? hq
  obtain ⟨xa, xc, rfl⟩ := hx.slice
  have hw : IntKind.i64.wrap (0 + (x.length : Int)) = (x.length : Int) := by rw [Int.zero_add]; exact IntWalk.i64_in _ (by omega)
  have hw1 : IntKind.i64.wrap (x.length : Int) = (x.length : Int) := IntWalk.i64_in _ (by omega)
  clear hx hq
  go_enter Try.func72, Try.ntmps72
  go_wp2_with fail
  refine wp_loop_rounds 2 ?_
  rw [rounds_succ]
  go_wp2
  rw [rounds_succ]
  go_wp2
  go_ret
  exact ⟨rfl, rfl⟩

set_option maxRecDepth 100000 in
set_option maxHeartbeats 4000000 in
theorem bytes_any {w : World} {bv : Value} {l : List UInt8} (h : Bv w bv l) (hl : l.length ≤ 900000000000) {qb : Nat} {pv : Value} {x : List UInt8} (hq : w.heap[qb]? = some (.cells #[pv] 28 (0, 0))) (hx : Bv w pv x) (hxl : x.length ≤ 500000000000) :
    Calls Try.prog 57 #[bv, .slice (some ⟨qb, 0, none⟩) 1 1] w fun e w' => ∃ v, e = .returned v ∧ OwnB w.heap.size w' v (l ++ bytesD x) ∧ Grow w w' := by
  have Hs := Lib.hid (csize_one hq hx (by omega))
  have Hn := Lib.hid (number_any h (by omega) (n := x.length) (by omega))
  obtain ⟨ba, bc, rfl⟩ := h.slice
  have Hq := Lib.hid hq
  have Hx := Lib.hid hx
  have hwu : IntKind.u64.wrap (x.length : Int) = (x.length : Int) := by simp [IntKind.wrap, IntKind.bits, IntKind.signed]; omega
  clear h hq hx
  go_enter Try.func57, Try.ntmps57
  go_wp2_with fail
  (with_reducible refine Hs.out.mono ?_)
  rintro e w1 ⟨rfl, hw1⟩
  have hw2 := hw1.symm
  subst hw2
  clear hw1 Hs
  go_wp2_with fail
  (with_reducible refine Hn.out.mono ?_)
  rintro e w2 ⟨nv, rfl, ho2, hb2⟩
  have hq2 := hb2.heap Hq.out
  have hx2 := Hx.out.grow hb2
  obtain ⟨v', w', h1, h2, h3, _⟩ := append_bytes ho2 hx2 hb2.size (by have := numF_len 10 x.length; simp; unfold numD; omega)
  have Hrun := Lib.hid h1
  have hpost : OwnB w.heap.size w' v' (l ++ bytesD x) := by unfold bytesD; rw [← List.append_assoc]; exact h2
  have Hpost := Lib.hid hpost
  have Hg := Lib.hid (below_grown hb2 hb2.size ho2 h3)
  clear hpost h2 h3
  generalize l ++ numD x.length = y at *
  have c0 : w2.cell? ⟨qb, 0, none⟩ = some pv := by simp [World.cell?, hq2]
  have lq := lt_of_getElem? hq2
  obtain ⟨na, nc, rfl⟩ := ho2.slice
  obtain ⟨xa, xc, rfl⟩ := hx2.slice
  clear h1 ho2 hx2 hq2 Hn Hq Hx hb2
  go_wp2_with fail
  refine wp_loop_rounds 2 ?_
  rw [rounds_succ]
  go_wp2_with (at_builtin; refine wpList_append rfl rfl rfl rfl Hrun.out ?_)
  rw [rounds_succ]
  go_wp2
  go_ret
  exact ⟨_, rfl, Hpost.out, Hg.out⟩

/-- 'string(b)'. -/
theorem conv_text {w : World} {v : Value} {l : List UInt8} (h : Bv w v l) : (convert 28 9 v).run Try.prog w = .ok (.string ⟨l.toArray⟩) w := by
  obtain ⟨a, c, rfl, _, _, _, h⟩ := h
  by_cases h0 : l = []
  · subst h0
    rw [List.length_nil, run_convert_bytes_string w 28 9 5 a 0 c Try.underlying28 Try.underlying5 Try.underlying9]
    cases a <;> simp [Conv.bytesToString, loadCells, loadCellsFrom] <;> rfl
  · rcases h with h | ⟨b, o, rfl, hb, hc⟩
    · exact absurd h h0
    · exact run_string Try.underlying28 Try.underlying5 Try.underlying9 (.inr ⟨b, o, c, rfl, hb, hc⟩)

/-- '[]byte(s)'. -/
theorem conv_bytes (s : ByteArray) (hs : s.size ≤ 140737488355328) (w : World) : ∃ cap w', (convert 9 28 (.string s)).run Try.prog w = .ok (.slice (some ⟨w.heap.size, 0, none⟩) s.size cap) w' ∧ Bv w' (.slice (some ⟨w.heap.size, 0, none⟩) s.size cap) s.data.toList ∧ Grow w w' := by
  have hr := Lib.run_convert_string_bytes (P := Try.prog) w 9 28 5 s Try.underlying9 Try.underlying28 Try.underlying5
  have hge := grownCap_ge w s.size 0 5
  have hmax : grownCap w s.size 0 5 ≤ maxLen := grownCap_le_maxLen w s.size 0 5 (by unfold maxLen; omega)
  have hgrow := Lib.bytesWorld_below w 5 s
  have hblk : (Lib.bytesWorld w 5 s).heap[w.heap.size]? = some (.cells (Lib.bytesCells w 5 s) 5 ((Lib.bytesCells w 5 s).size, (Lib.bytesCells w 5 s).size + 1)) := by
    simp [Lib.bytesWorld, World.freeze, World.alloc, World.drew, -World.alloc_eq, -World.drew_eq, Array.getElem_modify]
  have hsl : s.data.toList.length = s.size := by rw [Array.length_toList]; rfl
  have htk : (Lib.bytesCells w 5 s).toList.take s.size = bcells s.data.toList := by
    unfold Lib.bytesCells
    rw [Array.toList_append, Array.toList_map]
    have hl : (s.data.toList.map fun b => Value.int .u8 b.toNat).length = s.size := by rw [List.length_map, Array.length_toList]; rfl
    rw [← hl, List.take_left]
    rfl
  refine ⟨_, _, hr, ?_, hgrow⟩
  refine ⟨some ⟨w.heap.size, 0, none⟩, _, by rw [hsl], by rw [hsl]; exact hge, hmax, (fun h => by cases h), .inr ⟨w.heap.size, 0, rfl, lt_of_getElem? hblk, fun j k hk => ?_⟩⟩
  have h1 : (bcells s.data.toList)[j]? = some (.int .u8 k.toNat) := by simp [bcells, hk]
  rw [← htk, List.getElem?_take] at h1
  split at h1
  · simp only [World.cell?, hblk]
    simpa using h1
  · cases h1

/-- What is written is read, ten bytes too. -/
theorem rn_num10 : ∀ (k n i v : Nat) (r : List UInt8), n < 128 ^ k → i + k ≤ 10 → 0 < k → (i = 0 ∨ 0 < n) → n * 128 ^ i < 18446744073709551616 →
    rnF i v (numF k n ++ r) = (v + n * 128 ^ i, i + (numF k n).length, 0)
  | 0, n, i, v, r, hn, hik, hk, _, _ => by omega
  | k + 1, n, i, v, r, hn, hik, hk, h0, h64 => by
    unfold numF
    by_cases h : n < 128
    · rw [if_pos h]
      simp only [List.cons_append, List.nil_append, rnF]
      have e : (UInt8.ofNat n).toNat = n := by rw [UInt8.toNat_ofNat_of_lt' (by simp [UInt8.size]; omega)]
      have h9 : ¬ (i = 9 ∧ 1 < n) := by
        rintro ⟨rfl, h1⟩
        have : (128 : Nat) ^ 9 = 9223372036854775808 := by decide
        rw [this] at h64
        omega
      rw [e, if_neg h9, if_pos h, if_neg (by omega)]
      simp
    · rw [if_neg h]
      have e : (UInt8.ofNat (n % 128 + 128)).toNat = n % 128 + 128 := by rw [UInt8.toNat_ofNat_of_lt' (by simp [UInt8.size]; omega)]
      simp only [List.cons_append, rnF]
      have h9 : i ≠ 9 := by
        rintro rfl
        have : (128 : Nat) ^ 9 = 9223372036854775808 := by decide
        rw [this] at h64
        omega
      rw [e, if_neg (by omega), if_neg (by omega)]
      have hk1 : 0 < k := by
        rcases Nat.eq_zero_or_pos k with rfl | h1
        · simp at hn; omega
        · exact h1
      have hlt : n / 128 < 128 ^ k := by rw [Nat.pow_succ] at hn; exact Nat.div_lt_of_lt_mul (by rw [Nat.mul_comm]; exact hn)
      have h64' : n / 128 * 128 ^ (i + 1) < 18446744073709551616 := by
        refine Nat.lt_of_le_of_lt ?_ h64
        rw [Nat.pow_succ, Nat.mul_comm (128 ^ i) 128, ← Nat.mul_assoc]
        exact Nat.mul_le_mul_right _ (Nat.div_mul_le_self n 128)
      rw [rn_num10 k (n / 128) (i + 1) _ r hlt (by omega) hk1 (.inr (by omega)) h64']
      refine Prod.ext ?_ (Prod.ext ?_ rfl)
      · show v + (n % 128 + 128 - 128) * 128 ^ i + n / 128 * 128 ^ (i + 1) = v + n * 128 ^ i
        rw [Nat.add_sub_cancel, Nat.pow_succ, Nat.add_assoc]
        congr 1
        have : n = n % 128 + 128 * (n / 128) := (Nat.mod_add_div n 128).symm
        conv => rhs; rw [this]
        rw [Nat.add_mul]
        congr 1
        rw [Nat.mul_comm (128 ^ i) 128, ← Nat.mul_assoc, Nat.mul_comm (n / 128) 128]
      · simp; omega

theorem rn_any {n : Nat} (h : n < 18446744073709551616) (r : List UInt8) : rnD (numD n ++ r) = (n, (numD n).length, 0) := by
  have := rn_num10 10 n 0 0 r (Nat.lt_of_lt_of_le h (by decide)) (by decide) (by decide) (.inl rfl) (by simpa using h)
  unfold rnD numD
  rw [this]
  simp

theorem numD_len (n : Nat) : (numD n).length ≤ 10 := numF_len 10 n

set_option maxRecDepth 100000 in
set_option maxHeartbeats 4000000 in
theorem readBytes_m {w : World} {bv : Value} {x r : List UInt8} (h : Bv w bv (bytesD x ++ r)) (hx : x.length ≤ 500000000000) (hr : r.length ≤ 1000000000000) {m : Nat} (hxm : x.length ≤ m) (hm : m ≤ 2000000000000) :
    Calls Try.prog 69 #[bv, .int .i64 (m : Int)] w fun e w' => ∃ v, e = .returned (.tuple #[v, .int .i64 (((numD x.length).length + x.length : Nat) : Int), .int .i64 0]) ∧ OwnB w.heap.size w' v x ∧ Grow w w' := by
  have hrn := readNumber_any h
  have he : rnD (bytesD x ++ r) = (x.length, (numD x.length).length, 0) := by unfold bytesD; rw [List.append_assoc]; exact rn_any (by omega) _
  rw [he] at hrn
  have hk := numD_len x.length
  have hlen : (bytesD x ++ r).length = (numD x.length).length + x.length + r.length := by simp [bytesD]; omega
  obtain ⟨ba, bc, rfl⟩ := h.slice
  have hcut := bv_cut h (i := (numD x.length).length) (j := (numD x.length).length + x.length) (by omega) (by omega)
  have hcx : ((bytesD x ++ r).drop (numD x.length).length).take ((numD x.length).length + x.length - (numD x.length).length) = x := by
    unfold bytesD
    rw [List.append_assoc, List.drop_left, Nat.add_sub_cancel_left, List.take_left]
  rw [hcx, Nat.add_sub_cancel_left] at hcut
  have hcl := clone_any hcut (by omega)
  have hle : (numD x.length).length + x.length ≤ bc := by obtain ⟨a', c', e', hc', _⟩ := h; cases e'; omega
  rw [hlen] at hrn ⊢
  generalize (numD x.length).length = k at *
  obtain ⟨ad, had⟩ : ∃ ad, (if bc = k then ba else ba.map (fun x => x.add k)) = ad := ⟨_, rfl⟩
  rw [had] at hcl
  have Hcl := Lib.hid hcl
  have Hrn := Lib.hid hrn
  have e1 : decide ((m : Int) < (x.length : Int)) = false := by simp; omega
  have e0 : (0 : Int) ≤ (m : Int) := by omega
  have wm : IntKind.u64.wrap (m : Int) = (m : Int) := by simp [IntKind.wrap, IntKind.bits, IntKind.signed]; omega
  have w1 : IntKind.u64.wrap (((k + x.length + r.length : Nat) : Int) - (k : Int)) = ((x.length + r.length : Nat) : Int) := by simp [IntKind.wrap, IntKind.bits, IntKind.signed]; omega
  have w2 : IntKind.i64.wrap ((k : Int) + (x.length : Int)) = (k : Int) + (x.length : Int) := IntWalk.i64_in _ (by omega)
  have w3 : IntKind.i64.wrap (x.length : Int) = (x.length : Int) := IntWalk.i64_in _ (by omega)
  clear h hrn hcut hcl he hcx hlen
  go_enter Try.func69, Try.ntmps69
  go_wp2_with fail
  (with_reducible refine Hrn.out.mono ?_)
  rintro e w1 ⟨rfl, hw1⟩
  have hw2 := hw1.symm
  subst hw2
  clear hw1 Hrn
  go_wp2_with fail
  (with_reducible refine Hcl.out.mono ?_)
  rintro e w2 ⟨cv, rfl, ho, hg⟩
  obtain ⟨ca, cc, rfl⟩ := ho.slice
  go_wp2
  go_ret3
  exact ⟨_, by simp, ho, hg⟩
end Go.Proofs.Ytfchjoejdijjeaa
