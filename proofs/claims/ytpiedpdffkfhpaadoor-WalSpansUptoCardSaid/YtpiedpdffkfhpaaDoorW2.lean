/- Merged out of C0, C1, C2, C3, C4, C5, C6, C7, C8: helpers. -/
import Derived.Test.YtpiedpdffkfhpaaDoorW1
import Derived.Test.YtpiedpdffkfhpaaDoorRows
import Derived.Deep.QuietTactic
import Derived.BigQuiet
import Derived.Lib.Hide
import Derived.Laws.Cover1
import Derived.Laws.BitsAllLaws
import Derived.Laws.ShiftsVarLaws
import Derived.Deep.CutRange
import Derived.Deep.DeepCutAuto
/- Slices of bytes as lists; rows of bytes of one's own. -/
namespace Go.Proofs.YtpiedpdffkfhpaaDoor
open Go.RowKit Go.Gl Go.Wal

/-- The value reads as the bytes l. -/
def Bv (w : World) (v : Value) (l : List UInt8) : Prop :=
  ∃ a c, v = .slice a l.length c ∧ l.length ≤ c ∧ c ≤ maxLen ∧ (a = none → c = 0) ∧ (l = [] ∨ ∃ b o, a = some ⟨b, o, none⟩ ∧ b < w.heap.size ∧ ∀ (j : Nat) (k : UInt8), l[j]? = some k → w.cell? ⟨b, o + j, none⟩ = some (.int .u8 k.toNat))

theorem Bv.grow {w w' : World} {v : Value} {l : List UInt8} (h : Bv w v l) (hg : Grow w w') : Bv w' v l := by
  obtain ⟨a, c, hv, hl, hm, hn, h⟩ := h
  refine ⟨a, c, hv, hl, hm, hn, ?_⟩
  rcases h with h | ⟨b, o, ha, hb, hc⟩
  · exact .inl h
  · refine .inr ⟨b, o, ha, Nat.lt_of_lt_of_le hb hg.size, fun j k hk => ?_⟩
    rw [Grow.cells _ _ _ hg hb]; exact hc j k hk

theorem Tryd.infoB : (Tryd.prog.info? 5).map (fun i => (i.zero, i.size, i.bytes)) = some (some (.int .u8 0), 1, 1) := by kernel_rfl
theorem Tryd.infoR : (Tryd.prog.info? 23).map (fun i => (i.zero, i.size, i.bytes)) = some (some (.slice none 0 0), 1, 24) := by kernel_rfl
theorem Tryd.infoS : (Tryd.prog.info? 69).map (fun i => (i.zero, i.size, i.bytes)) = some (some (.slice none 0 0), 1, 24) := by kernel_rfl
theorem Tryd.infoI : (Tryd.prog.info? 3).map (fun i => (i.zero, i.size, i.bytes)) = some (some (.int .i64 0), 1, 8) := by kernel_rfl
theorem Tryd.infoStr : (Tryd.prog.info? 9).map (fun i => (i.zero, i.size, i.bytes)) = some (some (.string ByteArray.empty), 1, 16) := by kernel_rfl

/-- A row of bytes of one's own. -/
abbrev OwnB (B : Nat) (w : World) (v : Value) (l : List UInt8) : Prop := Row1 5 B w v (bcells l)

theorem bcells_len (l : List UInt8) : (bcells l).length = l.length := by simp [bcells]
theorem bcells_append (a b : List UInt8) : bcells (a ++ b) = bcells a ++ bcells b := by simp [bcells]
theorem bcells_one (l : List UInt8) : ∀ u ∈ bcells l, u.oneCell' = true := fun u hu => by
  obtain ⟨x, _, rfl⟩ := List.mem_map.1 hu
  rfl

theorem ownB_bv {B : Nat} {w : World} {v : Value} {l : List UInt8} (h : OwnB B w v l) : Bv w v l := by
  rcases h with ⟨rfl, h0⟩ | ⟨g, cap, cur, rfl, hB, hg, hn, hc, hm, ht⟩
  · have : l = [] := List.eq_nil_of_length_eq_zero (by rw [← bcells_len, h0]; rfl)
    subst this
    exact ⟨none, 0, rfl, Nat.le_refl _, Nat.zero_le _, fun _ => rfl, .inl rfl⟩
  · have hrow : OwnB B w (.slice (some ⟨g, 0, none⟩) (bcells l).length cap) l := .inr ⟨g, cap, cur, rfl, hB, hg, hn, hc, hm, ht⟩
    rw [bcells_len] at hn
    refine ⟨some ⟨g, 0, none⟩, cap, by rw [bcells_len], hn, hm, (fun h => by cases h), .inr ⟨g, 0, rfl, lt_of_getElem? hg, fun j k hk => ?_⟩⟩
    rw [Nat.zero_add]
    exact hrow.cells rfl (by simp [bcells, hk])

theorem Bv.src {w : World} {v : Value} {l : List UInt8} (h : Bv w v l) : Src Tryd.prog 1 23 v l.length (bcells l) w := by
  obtain ⟨a, c, rfl, hl, hm, hn, h⟩ := h
  cases a with
  | none =>
    have hc := hn rfl
    have : l = [] := List.eq_nil_of_length_eq_zero (by omega)
    subst this
    exact Src.ofNil w Tryd.underlying23 c
  | some a =>
    refine Src.ofSlice w Tryd.underlying23 a l.length c (bcells l) (by simp [bcells]) (fun j u hu => ?_) (bcells_one l)
    simp only [bcells, List.getElem?_map, Option.map_eq_some_iff] at hu
    obtain ⟨x, hx, rfl⟩ := hu
    rcases h with rfl | ⟨b, o, ha, hb, hc⟩
    · simp at hx
    · cases ha
      rw [Addr.add_lit]
      exact hc j x hx

/-- 'append(b, p...)'. -/
theorem append_bytes {B : Nat} {w : World} {v pv : Value} {l p : List UInt8} (h : OwnB B w v l) (hp : Bv w pv p) (hB : B ≤ w.heap.size) (hlen : l.length + p.length ≤ 140737488355328) :
    ∃ v' w', (Builtin.append_ #[23, 23] 23 #[v, pv]).run Tryd.prog w = .ok v' w' ∧ OwnB B w' v' (l ++ p) ∧ w.grownBy w' v.ownBlock ∧ (v'.ownBlock = v.ownBlock ∨ v'.ownBlock = some w.heap.size) := by
  obtain ⟨v', w', h1, h2, h3, h4⟩ := run_append_row (ty := 23) Tryd.underlying23 Tryd.infoB rfl h hp.src hB (by rw [bcells_len]; unfold maxLen; omega) (by rw [bcells_len]; omega)
  exact ⟨v', w', h1, by rw [OwnB, bcells_append]; exact h2, h3, h4⟩

/-- 'append(b, x)'. -/
theorem append_byte {B : Nat} {w : World} {v : Value} {l : List UInt8} (h : OwnB B w v l) (x : UInt8) {n : Int} (hx : n = (x.toNat : Int)) (hB : B ≤ w.heap.size) (hlen : l.length + 1 ≤ 140737488355328) :
    ∃ v' w', (Builtin.append_ #[23, 23] 23 #[v, .slice (some ⟨w.heap.size, 0, none⟩) 1 1]).run Tryd.prog (w.alloc (.cells #[.int .u8 n] 5)) = .ok v' w' ∧ OwnB B w' v' (l ++ [x]) ∧ Below B w w' := by
  subst hx
  have hb : Bv (w.alloc (.cells #[.int .u8 x.toNat] 5)) (.slice (some ⟨w.heap.size, 0, none⟩) 1 1) [x] := by
    refine ⟨some ⟨w.heap.size, 0, none⟩, 1, rfl, Nat.le_refl _, by decide, (fun h => by cases h), .inr ⟨w.heap.size, 0, rfl, by simp, fun j k hk => ?_⟩⟩
    match j, hk with
    | 0, hk =>
      cases hk
      simp only [World.cell?, heap_alloc_new]
      rfl
    | j + 1, hk => simp at hk
  have hga : Grow w (w.alloc (.cells #[.int .u8 x.toNat] 5)) := Grow.alloc _ _
  obtain ⟨v', w', h1, h2, h3, _⟩ := append_bytes (h.grow hga) hb (by simp; omega) (by simpa using hlen)
  exact ⟨v', w', h1, h2, below_grown (hga.mono hB) (by simp; omega) (h.grow hga) h3⟩
end Go.Proofs.YtpiedpdffkfhpaaDoor

/- codec.table. -/
namespace Go.Proofs.YtpiedpdffkfhpaaDoor
open Go.RowKit Go.Gl Go.Wal

def tabCells : Array Value := #[.int .u32 0, .int .u32 274646895, .int .u32 549293790, .int .u32 820201905, .int .u32 1098587580, .int .u32 1361435347, .int .u32 1640403810, .int .u32 1905808397, .int .u32 2197175160, .int .u32 2460548119, .int .u32 2722870694, .int .u32 2987750089, .int .u32 3280807620, .int .u32 3553878443, .int .u32 3811616794, .int .u32 4084100981]

set_option maxRecDepth 100000 in
set_option maxHeartbeats 8000000 in
theorem table_any (w : World) : Calls Tryd.prog 58 #[] w fun e w' => e = .returned (.agg tabCells) ∧ Grow w w' := by
  go_enter Tryd.func58, Tryd.ntmps58
  go_wp2_with fail
  refine wp_loop_rounds 17 ?_
  iterate 16 (rw [rounds_succ]; go_wp2_with fail; refine wp_loop_rounds 5 ?_; iterate 5 (rw [rounds_succ]; go_wp2_with fail))
  rw [rounds_succ]
  go_wp2
  refine bodyPost_ret (v := .agg tabCells) ?_ rfl ⟨rfl, by (repeat (first | exact Below.refl _ _ | assumption | refine Below.drew ?_ | refine bDrewN ?_ | refine Below.setCell ?_ (by first | omega | (simp <;> omega)) _ | refine Below.alloc ?_ (by first | omega | (simp <;> omega)) _))⟩
  simp [results, Tryd.results58, go_sem]
  kernel_rfl
end Go.Proofs.YtpiedpdffkfhpaaDoor

/- codec.Sum. -/
namespace Go.Proofs.YtpiedpdffkfhpaaDoor
open Go.RowKit Go.Gl Go.Wal

theorem crcHalf_lt {c : Nat} (h : c < 4294967296) : crcHalf crcTab c < 4294967296 := by
  unfold crcHalf
  refine Nat.xor_lt_two_pow (n := 32) (by omega) ?_
  have h15 : c &&& 15 < 16 := Nat.lt_of_le_of_lt Nat.and_le_right (by decide)
  generalize c &&& 15 = d at *
  have : ∀ d, d < 16 → crcTab.getD d 0 < 2 ^ 32 := by decide
  exact this d h15
theorem crcByte_lt {c : Nat} (h : c < 4294967296) (b : UInt8) : crcByte crcTab c b < 4294967296 := by
  unfold crcByte
  exact crcHalf_lt (crcHalf_lt (Nat.xor_lt_two_pow (n := 32) h (by have := b.toNat_lt; omega)))
theorem crcAll_lt (l : List UInt8) : crcAll crcTab l < 4294967296 := by
  unfold crcAll
  have : ∀ (l : List UInt8) (c : Nat), c < 4294967296 → l.foldl (crcByte crcTab) c < 4294967296 := by
    intro l
    induction l with
    | nil => intro c h; exact h
    | cons x l ih => intro c h; exact ih _ (crcByte_lt h x)
  exact this l _ (by decide)
theorem crcAll_snoc {l : List UInt8} {i : Nat} {k : UInt8} (h : l[i]? = some k) : crcAll crcTab (l.take (i + 1)) = crcByte crcTab (crcAll crcTab (l.take i)) k := by
  unfold crcAll
  obtain ⟨hi, rfl⟩ := List.getElem?_eq_some_iff.1 h
  rw [List.take_succ_eq_append_getElem hi, List.foldl_append]
  rfl

def SumIn (w : World) (l : List UInt8) (cv iv : Value) (wr : World) : Prop := ∃ i : Nat, iv = .int .i64 i ∧ i ≤ l.length ∧ cv = .int .u32 ((crcAll crcTab (l.take i) : Nat) : Int) ∧ wr = w

set_option maxRecDepth 100000 in
set_option maxHeartbeats 4000000 in
theorem sum_any {w : World} {b : Nat} {pv : Value} {l : List UInt8} (hb : w.heap[b]? = some (.cells #[pv] 23 (0, 0))) (h : Bv w pv l) :
    Calls Tryd.prog 47 #[.slice (some ⟨b, 0, none⟩) 1 1] w fun e w' => e = .returned (.int .u32 ((sumD crcTab l : Nat) : Int)) ∧ Grow w w' := by
  go_enter Tryd.func47, Tryd.ntmps47
  go_wp2_with fail
  (with_reducible refine (table_any _).mono ?_)
  rintro e w1 ⟨rfl, hg1⟩
  have hb1 := hg1.heap hb
  have h1 := h.grow hg1
  unfold tabCells
  go_wp2_with fail
  have hga : Grow w1 (w1.alloc (.cells #[.int .u32 0, .int .u32 274646895, .int .u32 549293790, .int .u32 820201905, .int .u32 1098587580, .int .u32 1361435347, .int .u32 1640403810, .int .u32 1905808397, .int .u32 2197175160, .int .u32 2460548119, .int .u32 2722870694, .int .u32 2987750089, .int .u32 3280807620, .int .u32 3553878443, .int .u32 3811616794, .int .u32 4084100981] 97)) := Grow.alloc _ _
  have hnew : (w1.alloc (.cells #[.int .u32 0, .int .u32 274646895, .int .u32 549293790, .int .u32 820201905, .int .u32 1098587580, .int .u32 1361435347, .int .u32 1640403810, .int .u32 1905808397, .int .u32 2197175160, .int .u32 2460548119, .int .u32 2722870694, .int .u32 2987750089, .int .u32 3280807620, .int .u32 3553878443, .int .u32 3811616794, .int .u32 4084100981] 97)).heap[w1.heap.size]? = some (.cells #[.int .u32 0, .int .u32 274646895, .int .u32 549293790, .int .u32 820201905, .int .u32 1098587580, .int .u32 1361435347, .int .u32 1640403810, .int .u32 1905808397, .int .u32 2197175160, .int .u32 2460548119, .int .u32 2722870694, .int .u32 2987750089, .int .u32 3280807620, .int .u32 3553878443, .int .u32 3811616794, .int .u32 4084100981] 97 (0, 0)) := heap_alloc_new _ _
  have hT : ∀ d, d < 16 → (w1.alloc (.cells #[.int .u32 0, .int .u32 274646895, .int .u32 549293790, .int .u32 820201905, .int .u32 1098587580, .int .u32 1361435347, .int .u32 1640403810, .int .u32 1905808397, .int .u32 2197175160, .int .u32 2460548119, .int .u32 2722870694, .int .u32 2987750089, .int .u32 3280807620, .int .u32 3553878443, .int .u32 3811616794, .int .u32 4084100981] 97)).cell? ⟨w1.heap.size, d, none⟩ = some (.int .u32 ((crcTab.getD d 0 : Nat) : Int)) := fun d hd => by
    simp only [World.cell?, hnew]
    match d, hd with
    | 0, _ => rfl
    | 1, _ => rfl
    | 2, _ => rfl
    | 3, _ => rfl
    | 4, _ => rfl
    | 5, _ => rfl
    | 6, _ => rfl
    | 7, _ => rfl
    | 8, _ => rfl
    | 9, _ => rfl
    | 10, _ => rfl
    | 11, _ => rfl
    | 12, _ => rfl
    | 13, _ => rfl
    | 14, _ => rfl
    | 15, _ => rfl
    | d + 16, h => exact absurd h (by omega)
  have hb2 := hga.heap hb1
  have h2 := h1.grow hga
  have Hg2 := Lib.hid (hg1.trans hga)
  have lt2 := lt_of_getElem? hnew
  generalize w1.alloc (.cells #[.int .u32 0, .int .u32 274646895, .int .u32 549293790, .int .u32 820201905, .int .u32 1098587580, .int .u32 1361435347, .int .u32 1640403810, .int .u32 1905808397, .int .u32 2197175160, .int .u32 2460548119, .int .u32 2722870694, .int .u32 2987750089, .int .u32 3280807620, .int .u32 3553878443, .int .u32 3811616794, .int .u32 4084100981] 97) = w2 at *
  generalize w1.heap.size = tb at *
  have hb0 : w2.cell? ⟨b, 0, none⟩ = some pv := by simp [World.cell?, hb2]
  have lb := lt_of_getElem? hb2
  obtain ⟨pa, pc, rfl, hl, hm, hn, hp⟩ := h2
  have Hp := Lib.hid hp
  have HT := Lib.hid hT
  clear hb hp h hb1 h1 hnew hT hga hg1 hb2
  refine wp_loop_rounds 2 ?_
  rw [rounds_succ]
  go_wp2_with fail
  go_loopw [4, 18] (fun cv iv wr => SumIn w2 l cv iv wr) (fun _ iv _ => l.length - (intOf iv).toNat)
  case atStart => exact ⟨0, rfl, Nat.zero_le _, rfl, rfl⟩
  case round =>
    obtain ⟨i, rfl, hi, rfl, hwr⟩ := hrel
    have hwr' := hwr.symm
    subst hwr'
    clear hwr
    by_cases hlt : i < l.length
    · obtain ⟨k, hk⟩ : ∃ k, l[i]? = some k := ⟨l[i], by simp [hlt]⟩
      obtain ⟨p, o, rfl, lp, hc⟩ : ∃ b o, pa = some ⟨b, o, none⟩ ∧ b < w2.heap.size ∧ ∀ (j : Nat) (k : UInt8), l[j]? = some k → w2.cell? ⟨b, o + j, none⟩ = some (.int .u8 k.toNat) := by
        rcases Hp.out with h1 | h1
        · rw [h1] at hlt; simp at hlt
        · exact h1
      have ck := hc i k hk
      have hstep := crcAll_snoc hk
      have hclt := crcAll_lt (l.take i)
      have hk256 := k.toNat_lt
      generalize crcAll crcTab (l.take i) = c at *
      have hi1 : (i : Int) < (l.length : Int) := by omega
      have hi0 : (0 : Int) ≤ (i : Int) := by omega
      have hwi : IntKind.i64.wrap ((i : Int) + 1) = (i : Int) + 1 := IntWalk.i64_in _ (by unfold maxLen at hm; omega)
      have x1 : bits .xor .u32 (c : Int) (k.toNat : Int) = ((c ^^^ k.toNat : Nat) : Int) := u32_xor_nat c k.toNat hclt (by omega)
      have hc1 : c ^^^ k.toNat < 4294967296 := Nat.xor_lt_two_pow (n := 32) hclt (by omega)
      unfold crcByte at hstep
      generalize c ^^^ k.toNat = c1 at *
      have x2 : bits .and .u32 (c1 : Int) 15 = ((c1 &&& 15 : Nat) : Int) := u32_and_nat c1 15 hc1 (by decide)
      have hd1 : c1 &&& 15 < 16 := Nat.lt_of_le_of_lt Nat.and_le_right (by decide)
      have ct1 := HT.out _ hd1
      have hT1 : crcTab.getD (c1 &&& 15) 0 < 4294967296 := by
        have : ∀ d, d < 16 → crcTab.getD d 0 < 2 ^ 32 := by decide
        exact this _ hd1
      have x3 : bits .xor .u32 ((c1 : Int) / 16) ((crcTab.getD (c1 &&& 15) 0 : Nat) : Int) = ((crcHalf crcTab c1 : Nat) : Int) := by
        have := u32_xor_nat (c1 / 16) (crcTab.getD (c1 &&& 15) 0) (by omega) hT1
        rw [show ((c1 / 16 : Nat) : Int) = (c1 : Int) / 16 by simp] at this
        exact this
      have hc2 := crcHalf_lt hc1
      generalize crcHalf crcTab c1 = c2 at *
      generalize hdd1 : c1 &&& 15 = d1 at *
      have x4 : bits .and .u32 (c2 : Int) 15 = ((c2 &&& 15 : Nat) : Int) := u32_and_nat c2 15 hc2 (by decide)
      have hd2 : c2 &&& 15 < 16 := Nat.lt_of_le_of_lt Nat.and_le_right (by decide)
      have ct2 := HT.out _ hd2
      have hT2 : crcTab.getD (c2 &&& 15) 0 < 4294967296 := by
        have : ∀ d, d < 16 → crcTab.getD d 0 < 2 ^ 32 := by decide
        exact this _ hd2
      have x5 : bits .xor .u32 ((c2 : Int) / 16) ((crcTab.getD (c2 &&& 15) 0 : Nat) : Int) = ((crcHalf crcTab c2 : Nat) : Int) := by
        have := u32_xor_nat (c2 / 16) (crcTab.getD (c2 &&& 15) 0) (by omega) hT2
        rw [show ((c2 / 16 : Nat) : Int) = (c2 : Int) / 16 by simp] at this
        exact this
      generalize crcHalf crcTab c2 = c3 at *
      generalize hdd2 : c2 &&& 15 = d2 at *
      generalize crcTab.getD d1 0 = T1 at *
      generalize crcTab.getD d2 0 = T2 at *
      have d1a : (d1 : Int) < 16 := by omega
      have d2a : (d2 : Int) < 16 := by omega
      have d1b : (0 : Int) ≤ (d1 : Int) := by omega
      have d2b : (0 : Int) ≤ (d2 : Int) := by omega
      have Hstep := Lib.hid hstep
      clear hstep hc hk hdd1 hdd2 hT1 hT2
      go_wp2
      go_roundw
      case rel => exact ⟨i + 1, rfl, hlt, by rw [Hstep.out], rfl⟩
      case measure => simp [intOf]; omega
    · obtain rfl : i = l.length := by omega
      go_wp2_with fail
      rw [rounds_succ]
      have hlt' := crcAll_lt l
      go_wp2
      go_ret
      have x : bits .xor .u32 4294967295 ((crcAll crcTab l : Nat) : Int) = ((sumD crcTab l : Nat) : Int) := u32_xor_nat 4294967295 (crcAll crcTab l) (by decide) hlt'
      refine ⟨?_, Hg2.out⟩
      rw [← x]
      rfl

theorem sumD_lt (l : List UInt8) : sumD crcTab l < 4294967296 := Nat.xor_lt_two_pow (n := 32) (by decide) (crcAll_lt l)
end Go.Proofs.YtpiedpdffkfhpaaDoor

/- codec.Number onto nothing, codec.low. -/
namespace Go.Proofs.YtpiedpdffkfhpaaDoor
open Go.RowKit Go.Gl Go.Wal

theorem or128 (m : Nat) : bits .or .u8 ((m : Int) % 256) 128 = (((UInt8.ofNat (m % 128 + 128)).toNat : Nat) : Int) := by
  have h1 : ((m : Int) % 256) = ((m % 256 : Nat) : Int) := by omega
  have h2 : bits .or .u8 ((m % 256 : Nat) : Int) 128 = ((m % 256 ||| 128 : Nat) : Int) := u8_or_nat (m % 256) 128 (by omega) (by decide)
  rw [h1, h2, UInt8.toNat_ofNat_of_lt' (by simp [UInt8.size]; omega)]
  congr 1
  have : ∀ x : Nat, x < 256 → x ||| 128 = x % 128 + 128 := by decide +kernel
  rw [this _ (by omega)]
  omega

theorem clip_nil (w : World) : Calls Tryd.prog 64 #[.slice none 0 0] w fun e w' => e = .returned (.slice none 0 0) ∧ w' = w := by
  go_enter Tryd.func64, Tryd.ntmps64
  go_wp2
  go_ret
  exact ⟨rfl, rfl⟩

def NumInv (w : World) (n : Nat) (bv vv : Value) (wr : World) : Prop :=
  ∃ (pre : List UInt8) (m k : Nat), vv = .int .u64 m ∧ OwnB w.heap.size wr bv pre ∧ m < 128 ^ (k + 1) ∧ pre.length + (k + 1) = 10 ∧ numD n = pre ++ numF (k + 1) m ∧ m < 18446744073709551616 ∧ Grow w wr

set_option maxRecDepth 100000 in
set_option maxHeartbeats 4000000 in
theorem number_nil (w : World) (n : Nat) (hn : n < 18446744073709551616) :
    Calls Tryd.prog 52 #[.slice none 0 0, .int .u64 n] w fun e w' => ∃ v, e = .returned v ∧ OwnB w.heap.size w' v (numD n) ∧ Grow w w' := by
  go_enter Tryd.func52, Tryd.ntmps52
  go_wp2_with fail
  (with_reducible refine (clip_nil _).mono ?_)
  rintro e w1 ⟨rfl, hw1⟩
  have hw2 := hw1.symm
  subst hw2
  clear hw1
  go_wp2_with fail
  go_loopw [0, 1] (fun bv vv wr => NumInv w n bv vv wr) (fun _ vv _ => (intOf vv).toNat)
  case atStart => exact ⟨[], n, 9, rfl, row1_nil _ _ _, by omega, rfl, rfl, hn, Grow.refl _⟩
  case round =>
    obtain ⟨pre, m, k, rfl, hown, hm, hk, hnum, hm64, hg⟩ := hrel
    obtain ⟨ba, bc, rfl⟩ := hown.slice
    by_cases hlt : 128 ≤ m
    · have hge : decide ((128 : Int) ≤ (m : Int)) = true := by simp; omega
      have hk1 : 0 < k := by
        rcases Nat.eq_zero_or_pos k with rfl | h1
        · simp at hm; omega
        · exact h1
      obtain ⟨k', rfl⟩ : ∃ k', k = k' + 1 := ⟨k - 1, by omega⟩
      obtain ⟨v', w', h1, h2, h3⟩ := append_byte hown (UInt8.ofNat (m % 128 + 128)) (or128 m) hg.size (by omega)
      have Hrun := Lib.hid h1
      have hrel : NumInv w n v' (.int .u64 ((m : Int) / 128)) w' := by
        refine ⟨pre ++ [UInt8.ofNat (m % 128 + 128)], m / 128, k', by simp, h2, ?_, by simp; omega, ?_, by omega, Below.trans hg h3⟩
        · rw [Nat.pow_succ] at hm; exact Nat.div_lt_of_lt_mul (by rw [Nat.mul_comm]; exact hm)
        · rw [hnum, numF, if_neg (by omega)]; simp
      have Hrel := Lib.hid hrel
      clear h1 h2 h3 hrel hown hnum hm hk hg
      go_wp2_with (at_builtin; refine wpList_append rfl rfl rfl rfl Hrun.out ?_)
      go_roundw
      case rel => exact Hrel.out
      case measure => simp [intOf]; omega
    · have hge : decide ((128 : Int) ≤ (m : Int)) = false := by simp; omega
      have hx : (m : Int) = (((UInt8.ofNat m).toNat : Nat) : Int) := by rw [UInt8.toNat_ofNat_of_lt' (by simp [UInt8.size]; omega)]
      obtain ⟨v', w', h1, h2, h3⟩ := append_byte hown (UInt8.ofNat m) hx hg.size (by omega)
      have Hrun := Lib.hid h1
      have hpost : OwnB w.heap.size w' v' (numD n) := by
        rw [hnum, numF, if_pos (by omega)]; exact h2
      have Hpost := Lib.hid hpost
      have Hg := Lib.hid (Below.trans hg h3)
      clear h1 h2 h3 hown hnum hm hk hg hpost hx
      go_wp2_with (at_builtin; refine wpList_append rfl rfl rfl rfl Hrun.out ?_)
      go_ret
      exact ⟨_, rfl, Hpost.out, Hg.out⟩

def LowInv (w : World) (B : Nat) (l : List UInt8) (v0 : Nat) (bv vv iv : Value) (wr : World) : Prop :=
  ∃ (i v : Nat), iv = .int .i64 i ∧ i ≤ 4 ∧ vv = .int .u64 v ∧ v < 4294967296 ∧ (∃ pre, OwnB B wr bv (l ++ pre) ∧ pre.length = i ∧ lowD 4 v0 = pre ++ lowD (4 - i) v) ∧ Below B w wr ∧ B ≤ wr.heap.size

set_option maxRecDepth 100000 in
set_option maxHeartbeats 4000000 in
theorem low_any {w : World} {B : Nat} {bv : Value} {l : List UInt8} (h : OwnB B w bv l) (hB : B ≤ w.heap.size) (hl : l.length ≤ 1000000000000) (v0 : Nat) (hv : v0 < 4294967296) :
    Calls Tryd.prog 46 #[bv, .int .u64 v0, .int .i64 4] w fun e w' => ∃ v, e = .returned v ∧ OwnB B w' v (l ++ lowD 4 v0) ∧ Below B w w' := by
  have hst : LowInv w B l v0 bv (.int .u64 v0) (.int .i64 0) w := ⟨0, v0, rfl, by omega, rfl, hv, ⟨[], by simpa using h, rfl, rfl⟩, Below.refl _ _, hB⟩
  have Hst := Lib.hid hst
  clear hst h
  go_enter Tryd.func46, Tryd.ntmps46
  go_wp2_with fail
  go_loopw [0, 1, 8] (fun bv vv iv wr => LowInv w B l v0 bv vv iv wr) (fun _ _ iv _ => 4 - (intOf iv).toNat)
  case atStart => exact Hst.out
  case round =>
    obtain ⟨i, v, rfl, hi, rfl, hvlt, ⟨pre, hown, hpl, hlow⟩, hg, hBr⟩ := hrel
    by_cases hlt : i < 4
    · have hi1 : decide ((i : Int) < 4) = true := by simp; omega
      have hwi : IntKind.i64.wrap ((i : Int) + 1) = (i : Int) + 1 := IntWalk.i64_in _ (by omega)
      have hx : ((v : Int) % 256) = (((UInt8.ofNat (v % 256)).toNat : Nat) : Int) := by rw [UInt8.toNat_ofNat_of_lt' (by simp [UInt8.size]; omega)]; omega
      obtain ⟨v', w', h1, h2, h3⟩ := append_byte hown (UInt8.ofNat (v % 256)) hx hBr (by simp; omega)
      have Hrun := Lib.hid h1
      have hrel : LowInv w B l v0 v' (.int .u64 ((v : Int) / 256)) (.int .i64 ((i : Int) + 1)) w' := by
        refine ⟨i + 1, v / 256, by simp, hlt, by simp, by omega, ⟨pre ++ [UInt8.ofNat (v % 256)], by rw [← List.append_assoc]; exact h2, by simp; omega, ?_⟩, Below.trans hg h3, Nat.le_trans hBr h3.size⟩
        rw [hlow, show 4 - i = (4 - (i + 1)) + 1 by omega, lowD]; simp
      have Hrel := Lib.hid hrel
      obtain ⟨ba, bc, rfl⟩ := hown.slice
      clear h1 h2 h3 hrel hown hlow hpl hg hx
      go_wp2_with (at_builtin; refine wpList_append rfl rfl rfl rfl Hrun.out ?_)
      go_roundw
      case rel => exact Hrel.out
      case measure => simp [intOf]; omega
    · obtain rfl : i = 4 := by omega
      have hpre : lowD 4 v0 = pre := by rw [hlow]; simp [lowD]
      have hpost := hown
      rw [← hpre] at hpost
      have Hpost := Lib.hid hpost
      obtain ⟨ba, bc, rfl⟩ := hown.slice
      clear hpost hown hlow hpre
      go_wp2
      go_ret
      exact ⟨_, rfl, Hpost.out, hg⟩
end Go.Proofs.YtpiedpdffkfhpaaDoor

/- codec.Frame, codec.Frames. -/
namespace Go.Proofs.YtpiedpdffkfhpaaDoor
open Go.RowKit Go.Gl Go.Wal

theorem Bv.slice {w : World} {v : Value} {l : List UInt8} (h : Bv w v l) : ∃ a c, v = .slice a l.length c := by
  obtain ⟨a, c, h, _⟩ := h; exact ⟨a, c, h⟩

set_option maxRecDepth 100000 in
set_option maxHeartbeats 4000000 in
theorem frame_any {w : World} {pv : Value} {p : List UInt8} (h : Bv w pv p) (hp : p.length ≤ 67108864) :
    Calls Tryd.prog 38 #[pv] w fun e w' => ∃ v, e = .returned v ∧ OwnB w.heap.size w' v (frameD crcTab p) ∧ Grow w w' := by
  have hnum := number_nil w p.length (by omega)
  obtain ⟨pa, pc, rfl⟩ := h.slice
  have H := Lib.hid h
  have Hnum := Lib.hid hnum
  clear h hnum
  go_enter Tryd.func38, Tryd.ntmps38
  go_wp2_with fail
  (with_reducible refine Hnum.out.mono ?_)
  rintro e w1 ⟨nv, rfl, hn1, hg1⟩
  have hga : Grow w1 (w1.alloc (.cells #[.slice pa p.length pc] 23)) := Grow.alloc _ _
  have hsum := sum_any (heap_alloc_new w1 (.cells #[.slice pa p.length pc] 23)) ((H.out.grow hg1).grow hga)
  have Hsum := Lib.hid hsum
  obtain ⟨na, nc, rfl⟩ := hn1.slice
  clear hsum
  go_wp2_with fail
  (with_reducible refine Hsum.out.mono ?_)
  rintro e w2 ⟨rfl, hg2⟩
  have hlow := low_any ((hn1.grow hga).grow hg2) (by have := hg1.size; have := hga.size; have := hg2.size; omega) (by have := numF_len 10 p.length; unfold numD; omega) (sumD crcTab p) (sumD_lt p)
  have Hlow := Lib.hid hlow
  have hwr : IntKind.u64.wrap ((sumD crcTab p : Nat) : Int) = ((sumD crcTab p : Nat) : Int) := by have := sumD_lt p; simp [IntKind.wrap, IntKind.bits, IntKind.signed]; omega
  have Hg := Lib.hid ((hg1.trans hga).trans hg2)
  clear hlow hga hg2 Hsum hn1 hg1 Hnum
  go_wp2_with fail
  (with_reducible refine Hlow.out.mono ?_)
  rintro e w3 ⟨lv, rfl, ho3, hb3⟩
  have hg3 : Grow w w3 := Below.trans Hg.out hb3
  obtain ⟨v', w', h1, h2, h3, _⟩ := append_bytes ho3 (H.out.grow hg3) hg3.size (by have := numF_len 10 p.length; simp [lowD_len]; unfold numD; omega)
  have Hrun := Lib.hid h1
  have hpost : OwnB w.heap.size w' v' (frameD crcTab p) := by unfold frameD; rw [← List.append_assoc]; exact h2
  have Hpost := Lib.hid hpost
  have Hgr := Lib.hid (below_grown hg3 hg3.size ho3 h3)
  obtain ⟨la, lc, rfl⟩ := ho3.slice
  clear h1 h2 h3 hpost ho3 hb3 hg3
  go_wp2_with (at_builtin; refine wpList_append rfl rfl rfl rfl Hrun.out ?_)
  go_ret
  exact ⟨_, rfl, Hpost.out, Hgr.out⟩

/-- The value reads as a row of payloads. -/
def Rv (w : World) (v : Value) (ps : List (List UInt8)) : Prop :=
  ∃ a c, v = .slice a ps.length c ∧ (ps = [] ∨ ∃ b o, a = some ⟨b, o, none⟩ ∧ b < w.heap.size ∧ ∀ (j : Nat) (p : List UInt8), ps[j]? = some p → ∃ pv, w.cell? ⟨b, o + j, none⟩ = some pv ∧ Bv w pv p)

theorem Rv.grow {w w' : World} {v : Value} {ps : List (List UInt8)} (h : Rv w v ps) (hg : Grow w w') : Rv w' v ps := by
  obtain ⟨a, c, hv, h⟩ := h
  refine ⟨a, c, hv, ?_⟩
  rcases h with h | ⟨b, o, ha, hb, hc⟩
  · exact .inl h
  · refine .inr ⟨b, o, ha, Nat.lt_of_lt_of_le hb hg.size, fun j p hp => ?_⟩
    obtain ⟨pv, h1, h2⟩ := hc j p hp
    exact ⟨pv, by rw [Grow.cells _ _ _ hg hb]; exact h1, h2.grow hg⟩

theorem framesD_snoc {ps : List (List UInt8)} {i : Nat} {p : List UInt8} (h : ps[i]? = some p) : framesD crcTab (ps.take (i + 1)) = framesD crcTab (ps.take i) ++ frameD crcTab p := by
  obtain ⟨hi, rfl⟩ := List.getElem?_eq_some_iff.1 h
  unfold framesD
  rw [List.take_succ_eq_append_getElem hi, List.flatMap_append, List.flatMap_singleton]

def FrInv (w : World) (ps : List (List UInt8)) (bv iv : Value) (wr : World) : Prop :=
  ∃ i : Nat, iv = .int .i64 i ∧ i ≤ ps.length ∧ OwnB w.heap.size wr bv (framesD crcTab (ps.take i)) ∧ Grow w wr

set_option maxRecDepth 100000 in
set_option maxHeartbeats 4000000 in
theorem frames_any {w : World} {v : Value} {ps : List (List UInt8)} (h : Rv w v ps) (hps : ∀ p ∈ ps, p.length ≤ 67108864) (htot : (framesD crcTab ps).length ≤ 1000000000000) (hpl : ps.length ≤ 1000000000000) :
    Calls Tryd.prog 28 #[v] w fun e w' => ∃ v, e = .returned v ∧ OwnB w.heap.size w' v (framesD crcTab ps) ∧ Grow w w' := by
  obtain ⟨va, vc, rfl, h⟩ := h
  have H := Lib.hid h
  clear h
  go_enter Tryd.func28, Tryd.ntmps28
  go_wp2_with fail
  go_loopw [3, 8] (fun bv iv wr => FrInv w ps bv iv wr) (fun _ iv _ => ps.length - (intOf iv).toNat)
  case atStart => exact ⟨0, rfl, Nat.zero_le _, row1_nil _ _ _, Grow.refl _⟩
  case round =>
    obtain ⟨i, rfl, hi, hown, hg⟩ := hrel
    by_cases hlt : i < ps.length
    · obtain ⟨p, hp⟩ : ∃ p, ps[i]? = some p := ⟨ps[i], by simp [hlt]⟩
      obtain ⟨b, o, rfl, lb, hc⟩ : ∃ b o, va = some ⟨b, o, none⟩ ∧ b < w.heap.size ∧ ∀ (j : Nat) (p : List UInt8), ps[j]? = some p → ∃ pv, w.cell? ⟨b, o + j, none⟩ = some pv ∧ Bv w pv p := by
        rcases H.out with h1 | h1
        · rw [h1] at hlt; simp at hlt
        · exact h1
      obtain ⟨pv, c1, hbv⟩ := hc i p hp
      rw [← Grow.cells _ _ _ hg lb] at c1
      have lb' : b < wr.heap.size := Nat.lt_of_lt_of_le lb hg.size
      have hfr := frame_any (hbv.grow hg) (hps p (List.mem_of_getElem? hp))
      have hsn := framesD_snoc hp
      have hle : (framesD crcTab (ps.take (i + 1))).length ≤ (framesD crcTab ps).length := by
        have : framesD crcTab ps = framesD crcTab (ps.take (i + 1)) ++ framesD crcTab (ps.drop (i + 1)) := by unfold framesD; rw [← List.flatMap_append, List.take_append_drop]
        rw [this, List.length_append]; omega
      have hi1 : (i : Int) < (ps.length : Int) := by omega
      have hi0 : (0 : Int) ≤ (i : Int) := by omega
      have hwi : IntKind.i64.wrap ((i : Int) + 1) = (i : Int) + 1 := IntWalk.i64_in _ (by omega)
      obtain ⟨pa, pc, rfl⟩ := hbv.slice
      obtain ⟨ba, bc, rfl⟩ := hown.slice
      have Hfr := Lib.hid hfr
      have Hown := Lib.hid hown
      have Hg := Lib.hid hg
      clear hfr hown hg hc hp hbv
      go_wp2_with fail
      (with_reducible refine Hfr.out.mono ?_)
      rintro e w2 ⟨fv, rfl, hf2, hg2⟩
      have ho2 := Hown.out.grow hg2
      obtain ⟨v', w', h1, h2, h3, _⟩ := append_bytes ho2 (ownB_bv hf2) (Nat.le_trans Hg.out.size hg2.size) (by rw [hsn, List.length_append] at hle; omega)
      have Hrun := Lib.hid h1
      have hrel : FrInv w ps v' (.int .i64 ((i : Int) + 1)) w' := ⟨i + 1, by simp, hlt, by rw [hsn]; exact h2, below_grown (Hg.out.trans hg2) (Nat.le_trans Hg.out.size hg2.size) ho2 h3⟩
      have Hrel := Lib.hid hrel
      obtain ⟨fa, fc, rfl⟩ := hf2.slice
      clear h1 h2 h3 hrel ho2 hf2 hsn hle hg2
      go_wp2_with (at_builtin; refine wpList_append rfl rfl rfl rfl Hrun.out ?_)
      go_roundw
      case rel => exact Hrel.out
      case measure => simp [intOf]; omega
    · obtain rfl : i = ps.length := by omega
      have hpost := hown
      rw [List.take_length] at hpost
      have Hpost := Lib.hid hpost
      obtain ⟨ba, bc, rfl⟩ := hown.slice
      clear hpost hown
      go_wp2
      go_ret
      exact ⟨_, rfl, Hpost.out, hg⟩
end Go.Proofs.YtpiedpdffkfhpaaDoor

/- codec.ReadNumber. -/
namespace Go.Proofs.YtpiedpdffkfhpaaDoor
open Go.RowKit Go.Gl Go.Wal

def RnInv (w : World) (l : List UInt8) (vv iv : Value) (wr : World) : Prop :=
  ∃ i v : Nat, iv = .int .i64 i ∧ i ≤ l.length ∧ vv = .int .u64 v ∧ v < 128 ^ i ∧ i ≤ 9 ∧ rnD l = rnF i v (l.drop i) ∧ wr = w

theorem rn_step {l : List UInt8} {i v : Nat} {c : UInt8} (h : l[i]? = some c) : rnF i v (l.drop i) =
    if i = 9 ∧ 1 < c.toNat then (0, 0, 12) else
    if c.toNat < 128 then (if c.toNat = 0 ∧ 0 < i then (0, 0, 12) else (v + c.toNat * 128 ^ i, i + 1, 0)) else
    rnF (i + 1) (v + (c.toNat - 128) * 128 ^ i) (l.drop (i + 1)) := by
  obtain ⟨hi, rfl⟩ := List.getElem?_eq_some_iff.1 h
  rw [List.drop_eq_getElem_cons hi, rnF]

theorem pow128 (i : Nat) : 128 ^ i = 2 ^ (7 * i) := by
  rw [Nat.pow_mul]

theorem or_join {v x i : Nat} (hi : i ≤ 9) (hv : v < 128 ^ i) (hfit : x * 128 ^ i < 18446744073709551616) : bits .or .u64 (v : Int) ((x * 128 ^ i : Nat) : Int) = ((v + x * 128 ^ i : Nat) : Int) := by
  have hle : 128 ^ i ≤ 128 ^ 9 := Nat.pow_le_pow_right (by decide) hi
  rw [u64_or_nat v (x * 128 ^ i) (by omega) hfit]
  congr 1
  rw [Nat.or_comm, Nat.add_comm v, pow128]
  rw [pow128] at hv
  exact nat_join (7 * i) (x * 2 ^ (7 * i)) v (Nat.mul_mod_left _ _) hv

theorem or_shape {v k i : Nat} (hi : i ≤ 9) (hv : v < 128 ^ i) (hfit : k % 128 * 128 ^ i < 18446744073709551616) : bits .or .u64 (v : Int) (IntKind.u64.wrap ((k : Int) % 128 * 2 ^ (7 * i))) = ((v + k % 128 * 128 ^ i : Nat) : Int) := by
  have e : (k : Int) % 128 * 2 ^ (7 * i) = ((k % 128 * 128 ^ i : Nat) : Int) := by rw [pow128]; simp
  have hw : IntKind.u64.wrap ((k % 128 * 128 ^ i : Nat) : Int) = ((k % 128 * 128 ^ i : Nat) : Int) := by
    generalize k % 128 * 128 ^ i = z at *
    simp [IntKind.wrap, IntKind.bits, IntKind.signed]; omega
  rw [e, hw]
  exact or_join hi hv hfit

set_option maxRecDepth 100000 in
set_option maxHeartbeats 4000000 in
theorem readNumber_any {w : World} {bv : Value} {l : List UInt8} (h : Bv w bv l) :
    Calls Tryd.prog 44 #[bv] w fun e w' => e = .returned (.tuple #[.int .u64 ((rnD l).1 : Nat), .int .i64 ((rnD l).2.1 : Nat), .int .i64 ((rnD l).2.2 : Nat)]) ∧ w' = w := by
  obtain ⟨ba, bc, rfl, hlc, hm, hn, h⟩ := h
  have H := Lib.hid h
  clear h
  go_enter Tryd.func44, Tryd.ntmps44
  go_wp2_with fail
  go_loopw [5, 10] (fun vv iv wr => RnInv w l vv iv wr) (fun _ iv _ => l.length - (intOf iv).toNat)
  case atStart => exact ⟨0, 0, rfl, Nat.zero_le _, rfl, by decide, by decide, rfl, rfl⟩
  case round =>
    obtain ⟨i, v, rfl, hi, rfl, hv, hi9, hrn, hwr⟩ := hrel
    have hwr' := hwr.symm
    subst hwr'
    clear hwr
    by_cases hlt : i < l.length
    · obtain ⟨c, hc⟩ : ∃ c, l[i]? = some c := ⟨l[i], by simp [hlt]⟩
      obtain ⟨b, o, rfl, lb, hcs⟩ : ∃ b o, ba = some ⟨b, o, none⟩ ∧ b < w.heap.size ∧ ∀ (j : Nat) (k : UInt8), l[j]? = some k → w.cell? ⟨b, o + j, none⟩ = some (.int .u8 k.toNat) := by
        rcases H.out with h1 | h1
        · rw [h1] at hlt; simp at hlt
        · exact h1
      have ck := hcs i c hc
      rw [rn_step hc] at hrn
      have hc256 := c.toNat_lt
      have hi1 : (i : Int) < (l.length : Int) := by omega
      have hi0 : (0 : Int) ≤ (i : Int) := by omega
      have hwi : IntKind.i64.wrap ((i : Int) + 1) = (i : Int) + 1 := IntWalk.i64_in _ (by omega)
      have hw7 : IntKind.i64.wrap (7 * (i : Int)) = 7 * (i : Int) := IntWalk.i64_in _ (by omega)
      generalize c.toNat = k at *
      have x1 : bits .and .u8 (k : Int) 127 = ((k % 128 : Nat) : Int) := by
        have := u8_and_nat k 127 (by omega) (by decide)
        rw [show (k &&& 127) = k % 128 from Nat.and_two_pow_sub_one_eq_mod k 7] at this
        exact this
      have Hrn := Lib.hid hrn
      clear hrn hc hcs
      by_cases h9 : i = 9 ∧ 1 < k
      · have e9 : ((i : Int) == 9) = true := by simp; omega
        have e1 : decide ((1 : Int) < (k : Int)) = true := by simp; omega
        have Hres : Hid (rnD l = (0, 0, 12)) := Lib.hid (by rw [Hrn.out, if_pos h9])
        clear h9
        go_wp2
        go_ret3
        rw [Hres.out]
        exact ⟨rfl, rfl⟩
      · have e9 : ((i : Int) == 9) = true → decide ((1 : Int) < (k : Int)) = false := by simp; omega
        have hx : k % 128 * 128 ^ i < 18446744073709551616 := by
          by_cases hi8 : i ≤ 8
          · have h1 : 128 ^ i ≤ 128 ^ 8 := Nat.pow_le_pow_right (by decide) hi8
            have h2 : k % 128 * 128 ^ i ≤ 127 * 128 ^ 8 := Nat.mul_le_mul (by omega) h1
            omega
          · obtain rfl : i = 9 := by omega
            have : k % 128 ≤ 1 := by omega
            have h2 : k % 128 * 128 ^ 9 ≤ 1 * 128 ^ 9 := Nat.mul_le_mul_right _ this
            omega
        have x2 := or_shape hi9 hv hx
        have X2 := Lib.hid x2
        clear x2
        rw [if_neg h9] at Hrn
        by_cases h128 : k < 128
        · rw [if_pos h128] at Hrn
          have hmod : k % 128 = k := Nat.mod_eq_of_lt h128
          rw [hmod] at X2
          have e128 : decide ((k : Int) < 128) = true := by simp; omega
          by_cases hz : k = 0 ∧ 0 < i
          · have Hres : Hid (rnD l = (0, 0, 12)) := Lib.hid (by rw [Hrn.out, if_pos hz])
            have ez : ((k : Int) == 0) = true := by simp; omega
            have ei : decide (0 < i) = true := by simp; omega
            have ei2 : 0 < i := hz.2
            clear hz hmod
            cases e91 : ((i : Int) == 9) with
            | true =>
              have e1 := e9 e91
              go_wp2
              go_ret3
              rw [Hres.out]
              exact ⟨rfl, rfl⟩
            | false =>
              go_wp2
              go_ret3
              rw [Hres.out]
              exact ⟨rfl, rfl⟩
          · have Hres : Hid (rnD l = (v + k * 128 ^ i, i + 1, 0)) := Lib.hid (by rw [Hrn.out, if_neg hz])
            clear hmod
            by_cases hk0 : k = 0
            · have ei : decide (0 < i) = false := by simp; omega
              have ei2 : ¬ 0 < i := by omega
              have ez : ((k : Int) == 0) = true := by simp; omega
              clear hk0
              cases e91 : ((i : Int) == 9) with
              | true =>
                have e1 := e9 e91
                go_wp2
                refine bodyPost_ret (v := .tuple #[.int .u64 ((rnD l).1 : Nat), .int .i64 ((rnD l).2.1 : Nat), .int .i64 ((rnD l).2.2 : Nat)]) ?_ rfl ⟨rfl, rfl⟩
                rw [Hres.out]
                simp only [← X2.out]
                simp [results, Tryd.results44, go_sem]
              | false =>
                go_wp2
                refine bodyPost_ret (v := .tuple #[.int .u64 ((rnD l).1 : Nat), .int .i64 ((rnD l).2.1 : Nat), .int .i64 ((rnD l).2.2 : Nat)]) ?_ rfl ⟨rfl, rfl⟩
                rw [Hres.out]
                simp only [← X2.out]
                simp [results, Tryd.results44, go_sem]
            · skip
              have ez : ((k : Int) == 0) = false := by simp; omega
              cases e91 : ((i : Int) == 9) with
              | true =>
                have e1 := e9 e91
                go_wp2
                refine bodyPost_ret (v := .tuple #[.int .u64 ((rnD l).1 : Nat), .int .i64 ((rnD l).2.1 : Nat), .int .i64 ((rnD l).2.2 : Nat)]) ?_ rfl ⟨rfl, rfl⟩
                rw [Hres.out]
                simp only [← X2.out]
                simp [results, Tryd.results44, go_sem]
              | false =>
                go_wp2
                refine bodyPost_ret (v := .tuple #[.int .u64 ((rnD l).1 : Nat), .int .i64 ((rnD l).2.1 : Nat), .int .i64 ((rnD l).2.2 : Nat)]) ?_ rfl ⟨rfl, rfl⟩
                rw [Hres.out]
                simp only [← X2.out]
                simp [results, Tryd.results44, go_sem]
        · have hi8 : i ≤ 8 := by omega
          have e91 : ((i : Int) == 9) = false := by simp; omega
          have e128 : decide ((k : Int) < 128) = false := by simp; omega
          have Hmod : Hid (k % 128 = k - 128) := Lib.hid (by omega)
          rw [if_neg h128] at Hrn
          go_wp2
          go_roundw
          case rel =>
            rw [X2.out]
            refine ⟨i + 1, _, by simp, hlt, rfl, ?_, by omega, by rw [Hrn.out, Hmod.out], rfl⟩
            have h1 : k % 128 * 128 ^ i ≤ 127 * 128 ^ i := Nat.mul_le_mul_right _ (by omega)
            rw [Nat.pow_succ]
            omega
          case measure => simp [intOf]; omega
    · obtain rfl : i = l.length := by omega
      have Hres : Hid (rnD l = (0, 0, 11)) := Lib.hid (by rw [hrn, List.drop_length]; rfl)
      clear hrn
      go_wp2
      go_ret3
      rw [Hres.out]
      exact ⟨rfl, rfl⟩
end Go.Proofs.YtpiedpdffkfhpaaDoor

/- slices.Equal, slices.Clone at bytes; slices of slices. -/
namespace Go.Proofs.YtpiedpdffkfhpaaDoor
open Go.RowKit Go.Gl Go.Wal

def EqInv (w : World) (l1 l2 : List UInt8) (iv : Value) (wr : World) : Prop := ∃ i : Nat, iv = .int .i64 i ∧ i ≤ l1.length ∧ l1.take i = l2.take i ∧ Grow w wr

set_option maxRecDepth 100000 in
set_option maxHeartbeats 4000000 in
theorem equal_any {w : World} {v1 v2 : Value} {l1 l2 : List UInt8} (h1 : Bv w v1 l1) (h2 : Bv w v2 l2) :
    Calls Tryd.prog 45 #[v1, v2] w fun e w' => e = .returned (.bool (decide (l1 = l2))) ∧ Grow w w' := by
  obtain ⟨a1, c1, rfl, hl1, hm1, hn1, h1⟩ := h1
  obtain ⟨a2, c2, rfl, hl2, hm2, hn2, h2⟩ := h2
  have H1 := Lib.hid h1
  have H2 := Lib.hid h2
  have hcl := Grow.cells (w := w)
  clear h1 h2 hn1 hn2
  by_cases hlen : l1.length = l2.length
  · have hne : ((l1.length : Int) != (l2.length : Int)) = false := by simp; omega
    go_enter Tryd.func45, Tryd.ntmps45
    go_wp2
    go_loopw [13] (fun iv wr => EqInv w l1 l2 iv wr) (fun iv _ => l1.length - (intOf iv).toNat)
    case atStart => exact ⟨0, rfl, Nat.zero_le _, rfl, Grow.refl _⟩
    case round =>
      obtain ⟨i, rfl, hi, heq, hg⟩ := hrel
      by_cases hlt : i < l1.length
      · obtain ⟨x, hx⟩ : ∃ x, l1[i]? = some x := ⟨l1[i], by simp [hlt]⟩
        obtain ⟨y, hy⟩ : ∃ y, l2[i]? = some y := ⟨l2[i]'(by omega), by simp [show i < l2.length by omega]⟩
        obtain ⟨b1, o1, rfl, lb1, hc1⟩ : ∃ b o, a1 = some ⟨b, o, none⟩ ∧ b < w.heap.size ∧ ∀ (j : Nat) (k : UInt8), l1[j]? = some k → w.cell? ⟨b, o + j, none⟩ = some (.int .u8 k.toNat) := by
          rcases H1.out with h1 | h1
          · rw [h1] at hlt; simp at hlt
          · exact h1
        obtain ⟨b2, o2, rfl, lb2, hc2⟩ : ∃ b o, a2 = some ⟨b, o, none⟩ ∧ b < w.heap.size ∧ ∀ (j : Nat) (k : UInt8), l2[j]? = some k → w.cell? ⟨b, o + j, none⟩ = some (.int .u8 k.toNat) := by
          rcases H2.out with h1 | h1
          · rw [hlen, h1] at hlt; simp at hlt
          · exact h1
        have p1 := hc1 i x hx
        have p2 := hc2 i y hy
        have hi1 : (i : Int) < (l1.length : Int) := by omega
        have hi2 : (i : Int) < (l2.length : Int) := by omega
        have hi0 : (0 : Int) ≤ (i : Int) := by omega
        have hwi : IntKind.i64.wrap ((i : Int) + 1) = (i : Int) + 1 := IntWalk.i64_in _ (by unfold maxLen at hm1; omega)
        have Hg := Lib.hid hg
        by_cases hxy : x = y
        · have hrel : EqInv w l1 l2 (.int .i64 ((i : Int) + 1)) wr.drew := by
            refine ⟨i + 1, by simp, hlt, ?_, hg.trans (Grow.drew _)⟩
            obtain ⟨q1, q2⟩ := List.getElem?_eq_some_iff.1 hx
            obtain ⟨q3, q4⟩ := List.getElem?_eq_some_iff.1 hy
            rw [List.take_succ_eq_append_getElem q1, List.take_succ_eq_append_getElem q3, heq, q2, q4, hxy]
          have Hrel := Lib.hid hrel
          have e1 : ((x.toNat : Int) != (y.toNat : Int)) = false := by rw [hxy]; simp
          clear hrel hc1 hc2 hx hy heq hg hxy
          go_wp2_with fail
          refine wp_region_pi (fun W => Below w.heap.size w W) [(0, false), (1, false), (2, false), (3, false), (4, false), (5, false), (6, false), (7, false), (8, false)] (by kernel_rfl) (by kernel_rfl) (fun c a d v w h => by cases d <;> exact h) (Hg.out.trans (Grow.drew _)) ?_
          simp only [arrange, nth]
          repeat (first | (refine wpPi_quiet (v := ?_) (by rfl) (fun W hW => ?_) ?_; rotate_left; (obtain hW := hW; go_simp; with_reducible rfl); simp only [Act.put, List.setIfInBounds_toArray, List.set_cons_zero, List.set_cons_succ]) | (refine wpPi_off (by rfl) ?_; simp only [Act.put, List.setIfInBounds_toArray, List.set_cons_zero, List.set_cons_succ]))
          refine wpPi_nil ?_
          go_wp2
          go_roundw
          case rel => exact Hrel.out
          case measure => simp [intOf]; omega
        · have e1 : ((x.toNat : Int) != (y.toNat : Int)) = true := by
            simp only [bne_iff_ne, ne_eq]
            intro hc
            exact hxy (UInt8.toNat_inj.1 (by omega))
          have Hres : Hid (decide (l1 = l2) = false) := Lib.hid (by
            simp only [decide_eq_false_iff_not]
            intro hc
            rw [hc, hy] at hx
            exact hxy (Option.some.inj hx).symm)
          clear hc1 hc2 hx hy heq hg hxy
          go_wp2_with fail
          refine wp_region_pi (fun W => Below w.heap.size w W) [(0, false), (1, false), (2, false), (3, false), (4, false), (5, false), (6, false), (7, false), (8, false)] (by kernel_rfl) (by kernel_rfl) (fun c a d v w h => by cases d <;> exact h) (Hg.out.trans (Grow.drew _)) ?_
          simp only [arrange, nth]
          repeat (first | (refine wpPi_quiet (v := ?_) (by rfl) (fun W hW => ?_) ?_; rotate_left; (obtain hW := hW; go_simp; with_reducible rfl); simp only [Act.put, List.setIfInBounds_toArray, List.set_cons_zero, List.set_cons_succ]) | (refine wpPi_off (by rfl) ?_; simp only [Act.put, List.setIfInBounds_toArray, List.set_cons_zero, List.set_cons_succ]))
          refine wpPi_nil ?_
          go_wp2
          go_ret
          rw [Hres.out]
          exact ⟨rfl, Hg.out.trans (Grow.drew _)⟩
      · obtain rfl : i = l1.length := by omega
        have Hres : Hid (decide (l1 = l2) = true) := Lib.hid (by
          rw [List.take_length] at heq
          rw [hlen, List.take_length] at heq
          simp [heq])
        clear heq
        go_wp2
        go_ret
        rw [Hres.out]
        exact ⟨rfl, hg⟩
  · have hne : ((l1.length : Int) != (l2.length : Int)) = true := by simp; omega
    have Hres : Hid (decide (l1 = l2) = false) := Lib.hid (by
      simp only [decide_eq_false_iff_not]
      intro hc
      exact hlen (by rw [hc]))
    clear hlen
    go_enter Tryd.func45, Tryd.ntmps45
    go_wp2
    go_ret
    rw [Hres.out]
    exact ⟨rfl, Grow.refl _⟩

set_option maxHeartbeats 400000 in
theorem clone_any {w : World} {v : Value} {l : List UInt8} (h : Bv w v l) (hmax : l.length ≤ 140737488355328) :
    Calls Tryd.prog 29 #[v] w fun e w' => ∃ v', e = .returned v' ∧ OwnB w.heap.size w' v' l ∧ Grow w w' := by
  have hga : Grow w (w.alloc (.cells #[] 5)) := Grow.alloc _ _
  have hrow : OwnB w.heap.size (w.alloc (.cells #[] 5)) (.slice (some ⟨w.heap.size, 0, none⟩) 0 0) [] := .inr ⟨w.heap.size, 0, #[], rfl, Nat.le_refl _, heap_alloc_new _ _, Nat.le_refl _, Nat.le_refl _, Nat.zero_le _, rfl⟩
  obtain ⟨v', w', h1, h2, h3, _⟩ := append_bytes hrow (h.grow hga) (by simp) (by simpa using hmax)
  have hgr : Grow w w' := below_grown hga (by simp) hrow h3
  have Hrun := Lib.hid h1
  have Hpost := Lib.hid h2
  have Hgr := Lib.hid hgr
  obtain ⟨a, c, rfl, _, _, hn, _⟩ := h
  have h0 := @Lib.run_eql_slice_nil Tryd.prog
  cases a with
  | none =>
    have hc := hn rfl
    have : l = [] := by
      rename_i hlc _ _
      exact List.eq_nil_of_length_eq_zero (by omega)
    subst this
    subst hc
    clear h1 h2 h3 hgr hrow hga
    go_enter Tryd.func29, Tryd.ntmps29
    go_wp2
    go_ret
    exact ⟨_, rfl, row1_nil _ _ _, Grow.refl _⟩
  | some a =>
    clear h1 h2 h3 hgr hrow hga hn
    go_enter Tryd.func29, Tryd.ntmps29
    go_wp2_with (at_builtin; refine wpList_append rfl rfl rfl rfl Hrun.out ?_)
    go_ret
    exact ⟨_, rfl, Hpost.out, Hgr.out⟩
end Go.Proofs.YtpiedpdffkfhpaaDoor

/- codec.frame. -/
namespace Go.Proofs.YtpiedpdffkfhpaaDoor
open Go.RowKit Go.Gl Go.Wal

theorem rn_le : ∀ (r : List UInt8) (i v : Nat), (rnF i v r).2.1 ≤ i + r.length
  | [], i, v => by simp [rnF]
  | c :: r, i, v => by
    unfold rnF
    split
    · simp
    · split
      · split
        · simp
        · simp
      · have := rn_le r (i + 1) (v + (c.toNat - 128) * 128 ^ i); simp at this ⊢; omega

theorem bv_cut {w : World} {a : Option Addr} {c : Nat} {l : List UInt8} (h : Bv w (.slice a l.length c) l) {i j : Nat} (hij : i ≤ j) (hj : j ≤ l.length) : Bv w (.slice (if c = i then a else a.map (fun x => x.add i)) (j - i) (c - i)) ((l.drop i).take (j - i)) := by
  obtain ⟨a', c', he, hlc, hm, hn, h⟩ := h
  cases he
  have hlen : ((l.drop i).take (j - i)).length = j - i := by simp; omega
  refine ⟨_, c - i, by rw [hlen], by rw [hlen]; omega, by omega, ?_, ?_⟩
  · intro h0
    split at h0
    · omega
    · cases a with
      | none => have := hn rfl; omega
      | some x => cases h0
  · by_cases hz : (l.drop i).take (j - i) = []
    · exact .inl hz
    · right
      have hlt : i < j := by
        rcases Nat.lt_or_ge i j with h1 | h1
        · exact h1
        · exfalso; apply hz; rw [show j - i = 0 by omega]; simp
      rcases h with rfl | ⟨b, o, rfl, hb, hc⟩
      · simp at hj; omega
      · rw [if_neg (by omega)]
        refine ⟨b, o + i, by show some (Addr.add ⟨b, o, none⟩ i) = _; rw [Addr.add_lit], hb, fun q k hk => ?_⟩
        rw [List.getElem?_take] at hk
        split at hk
        · rw [List.getElem?_drop] at hk
          have := hc (i + q) k hk
          rw [Nat.add_assoc]
          exact this
        · cases hk

def S10 (ba : Option Addr) (bc len : Nat) (at' fr tt : Nat) (A P : List UInt8) (i : Nat) (v : Value) (W : World) : Prop :=
  match i with
  | 0 => v = .slice ba len bc
  | 1 => v = .int .i64 at'
  | 2 => v = .int .i64 fr
  | 3 => Bv W v A
  | 4 => v = .slice ba len bc
  | 5 => v = .int .i64 fr
  | 6 => v = .int .i64 tt
  | 7 => Bv W v P
  | 8 => ∃ b pv, v = .slice (some ⟨b, 0, none⟩) 1 1 ∧ W.heap[b]? = some (.cells #[pv] 23 (0, 0)) ∧ Bv W pv P
  | 9 => v = .int .u32 ((sumD crcTab P : Nat) : Int)
  | 10 => v = .int .u64 ((sumD crcTab P : Nat) : Int)
  | 11 => Bv W v (lowD 4 (sumD crcTab P))
  | 12 => v = .bool (decide (A = lowD 4 (sumD crcTab P)))
  | 13 => v = .bool (!decide (A = lowD 4 (sumD crcTab P)))
  | _ => True
theorem S10.keep {ba : Option Addr} {bc len at' fr tt : Nat} {A P : List UInt8} : ∀ (j : Nat) (v : Value) (W W' : World), Grow W W' → S10 ba bc len at' fr tt A P j v W → S10 ba bc len at' fr tt A P j v W' := by
  intro j v W W' hR h
  unfold S10 at h
  split at h <;> first
    | exact h
    | exact Bv.grow h hR
    | (obtain ⟨b, pv, hv, hc, hp⟩ := h; exact ⟨b, pv, hv, hR.heap hc, hp.grow hR⟩)
    | (unfold S10; split <;> first | trivial | (exfalso; simp_all))

set_option maxRecDepth 100000 in
set_option maxHeartbeats 4000000 in
theorem codec_frame {w : World} {bv : Value} {l : List UInt8} (h : Bv w bv l) (hl : l.length ≤ 1000000000000) :
    Calls Tryd.prog 32 #[bv] w fun e w' => e = .returned (.tuple #[.int .i64 ((frD crcTab l).1 : Nat), .int .i64 ((frD crcTab l).2.1 : Nat), .int .i64 ((frD crcTab l).2.2 : Nat)]) ∧ Grow w w' := by
  have hrn := readNumber_any h
  obtain ⟨ba, bc, rfl⟩ := h.slice
  have H := Lib.hid h
  have Hrn := Lib.hid hrn
  clear h hrn
  go_enter Tryd.func32, Tryd.ntmps32
  go_wp2_with fail
  (with_reducible refine Hrn.out.mono ?_)
  rintro e w1 ⟨rfl, hw1⟩
  have hw2 := hw1.symm
  subst hw2
  clear hw1 Hrn
  have Hdef : Hid (frD crcTab l = _) := Lib.hid (by unfold frD; rfl)
  generalize hr : rnD l = r at *
  have hat := rn_le l 0 0
  rw [show rnF 0 0 l = r from hr] at hat
  obtain ⟨n, at', e⟩ := r
  dsimp only at Hdef hat ⊢
  clear hr
  by_cases h1 : e ≠ 0
  · rw [if_pos h1] at Hdef
    have e1 : ((e : Int) != 0) = true := by simp; omega
    have e2 : e ≠ 0 := h1
    clear h1
    go_wp2
    go_ret3
    rw [Hdef.out]
    exact ⟨rfl, Grow.refl _⟩
  rw [if_neg h1] at Hdef
  have e1 : ((e : Int) != 0) = false := by simp; omega
  obtain rfl : e = 0 := by omega
  clear h1
  by_cases h2 : 67108864 < n
  · rw [if_pos h2] at Hdef
    have e2 : decide ((67108864 : Int) < (n : Int)) = true := by simp; omega
    go_wp2
    go_ret3
    rw [Hdef.out]
    exact ⟨rfl, Grow.refl _⟩
  rw [if_neg h2] at Hdef
  have e2 : decide ((67108864 : Int) < (n : Int)) = false := by simp; omega
  by_cases h3 : l.length < at' + (n + 4)
  · rw [if_pos h3] at Hdef
    have e3 : decide ((l.length : Int) - (at' : Int) < (n : Int) + 4) = true := by simp; omega
    go_wp2
    go_ret3
    rw [Hdef.out]
    exact ⟨rfl, Grow.refl _⟩
  rw [if_neg h3] at Hdef
  have e3 : decide ((l.length : Int) - (at' : Int) < (n : Int) + 4) = false := by simp; omega
  have hbc : l.length ≤ bc := by obtain ⟨_, _, he, hlc, _⟩ := H.out; cases he; exact hlc
  generalize hPd : (l.drop (at' + 4)).take n = P at *
  generalize hAd : (l.drop at').take 4 = A at *
  have HP := Lib.hid hPd
  have HA := Lib.hid hAd
  clear hPd hAd
  go_upto_region 10 with fail
  obtain ⟨fr, hfr⟩ : ∃ fr : Nat, fr = at' + 4 := ⟨_, rfl⟩
  obtain ⟨tt, hto⟩ : ∃ tt : Nat, tt = fr + n := ⟨_, rfl⟩
  rw [show ((at' : Int) + 4) = (fr : Int) by omega]
  rw [show ((fr : Int) + (n : Int)) = (tt : Int) by omega]
  rw [← hfr] at HP Hdef
  rw [← hto] at Hdef
  have b1 : at' ≤ fr := by omega
  have b2 : fr ≤ tt := by omega
  have b3 : tt ≤ l.length := by omega
  have Hfr := Lib.hid hfr
  have Htt := Lib.hid hto
  clear hfr hto h3
  go_cut [48] from 35 to 48 (fun c wx => c = .bool (!decide (A = lowD 4 (sumD crcTab P))) ∧ Grow w wx)
  case first =>
    rename_i J K hJ hK
    refine wp_frame (fun a0 ha0 => ?_)
    have F0 : a0.tmps[0]? = some (.slice ba l.length bc) := by rw [ha0]; rfl
    have F2 : a0.tmps[2]? = some (.int .i64 fr) := by rw [ha0]; rfl
    have F3 : a0.tmps[3]? = some (.int .i64 tt) := by rw [ha0]; rfl
    have F6 : a0.tmps[6]? = some (.int .i64 at') := by rw [ha0]; rfl
    have hsz : a0.tmps.size = 51 := by rw [ha0]; rfl
    have Hrest : Hid (∀ a1 wx, FrameBut [35, 36, 37, 38, 39, 40, 41, 42, 43, 44, 45, 46, 47, 48] a0 a1 → a1.tmps[48]? = some (.bool (!decide (A = lowD 4 (sumD crcTab P)))) → Grow w wx → K a1 wx) := Lib.hid (fun a1 wx ha h48 r0 => by
      refine hK _ _ (hJ _ _ ?_)
      refine ⟨a1.tmps.getD 35 undef, a1.tmps.getD 36 undef, a1.tmps.getD 37 undef, a1.tmps.getD 38 undef, a1.tmps.getD 39 undef, a1.tmps.getD 40 undef, a1.tmps.getD 41 undef, a1.tmps.getD 42 undef, a1.tmps.getD 43 undef, a1.tmps.getD 44 undef, a1.tmps.getD 45 undef, a1.tmps.getD 46 undef, a1.tmps.getD 47 undef, a1.tmps.getD 48 undef, ⟨by rw [Array.getD_eq_getD_getElem?, h48]; rfl, r0⟩, ha.fill.trans ?_⟩
      subst ha0
      kernel_rfl)
    clear ha0 hK hJ e1 e2 e3
    refine wp_region_flow (S10 ba bc l.length at' fr tt A P) (fun _ _ W => Below w.heap.size w W) Grow [35, 36, 37, 38, 39, 40, 41, 42, 43, 44, 45, 46, 47, 48] (by kernel_rfl) (by kernel_rfl) (by rw [hsz]; rfl) S10.keep (Grow.drew _) ?_ (fun a1 W hf => ?_)
    rotate_left
    · obtain ⟨v48, hv48, hq48⟩ := hf.slot 13 48 (by rfl) (by rfl)
      have hq48' : v48 = _ := hq48
      rw [hq48'] at hv48
      exact Hrest.out a1 W hf.alike hv48 hf.world
    clear Hrest
    refine ⟨?_, ?_, ?_, ?_, ?_, ?_, ?_, ?_, ?_, ?_, ?_, ?_, ?_, ?_, True.intro⟩
    · intro listed a W hf hun haf
      have hs1 : a.tmps.size = 51 := hf.alike.size.trans hsz
      have G0 : a.tmps[0]'(by rw [hs1]; decide) = .slice ba l.length bc := tmp_get ((hf.alike.same 0 (by decide)).trans F0) _
      refine wpOp_act rfl (by rfl) (fun K' hK' => ?_)
      go_simp
      exact hK' _ _ ⟨_, rfl, (fun _ _ => rfl), Grow.refl _, hf.world⟩
    · intro listed a W hf hun haf
      have hs1 : a.tmps.size = 51 := hf.alike.size.trans hsz
      have G6 : a.tmps[6]'(by rw [hs1]; decide) = .int .i64 at' := tmp_get ((hf.alike.same 6 (by decide)).trans F6) _
      refine wpOp_act rfl (by rfl) (fun K' hK' => ?_)
      go_simp
      exact hK' _ _ ⟨_, rfl, (fun _ _ => rfl), Grow.refl _, hf.world⟩
    · intro listed a W hf hun haf
      have hs1 : a.tmps.size = 51 := hf.alike.size.trans hsz
      have G2 : a.tmps[2]'(by rw [hs1]; decide) = .int .i64 fr := tmp_get ((hf.alike.same 2 (by decide)).trans F2) _
      refine wpOp_act rfl (by rfl) (fun K' hK' => ?_)
      go_simp
      exact hK' _ _ ⟨_, rfl, (fun _ _ => rfl), Grow.refl _, hf.world⟩
    · intro listed a W hf hun haf
      have hs1 : a.tmps.size = 51 := hf.alike.size.trans hsz
      have hB : Below w.heap.size w W := hf.world
      obtain ⟨v0, s0, q0⟩ := hf.slot 0 35 rfl (after_listed haf 0 (by kernel_rfl))
      have q0' : v0 = _ := q0
      subst q0'
      have G35 := tmp_get s0 (by rw [hs1]; decide)
      obtain ⟨v1, s1, q1⟩ := hf.slot 1 36 rfl (after_listed haf 1 (by kernel_rfl))
      have q1' : v1 = _ := q1
      subst q1'
      have G36 := tmp_get s1 (by rw [hs1]; decide)
      obtain ⟨v2, s2, q2⟩ := hf.slot 2 37 rfl (after_listed haf 2 (by kernel_rfl))
      have q2' : v2 = _ := q2
      subst q2'
      have G37 := tmp_get s2 (by rw [hs1]; decide)
      have c1 : fr ≤ bc := by omega
      have c2 : at' ≤ fr := by omega
      refine wpOp_act rfl (by rfl) (fun K' hK' => ?_)
      go_simp
      exact hK' _ _ ⟨_, rfl, (fun _ _ => by have := bv_cut (H.out.grow hB) (i := at') (j := fr) (by omega) (by omega); rw [show fr - at' = 4 by (have := Hfr.out; omega), HA.out] at this; rw [show fr - at' = 4 by (have := Hfr.out; omega)]; exact this), Grow.refl _, hf.world⟩
    · intro listed a W hf hun haf
      have hs1 : a.tmps.size = 51 := hf.alike.size.trans hsz
      have G0 : a.tmps[0]'(by rw [hs1]; decide) = .slice ba l.length bc := tmp_get ((hf.alike.same 0 (by decide)).trans F0) _
      refine wpOp_act rfl (by rfl) (fun K' hK' => ?_)
      go_simp
      exact hK' _ _ ⟨_, rfl, (fun _ _ => rfl), Grow.refl _, hf.world⟩
    · intro listed a W hf hun haf
      have hs1 : a.tmps.size = 51 := hf.alike.size.trans hsz
      have G2 : a.tmps[2]'(by rw [hs1]; decide) = .int .i64 fr := tmp_get ((hf.alike.same 2 (by decide)).trans F2) _
      refine wpOp_act rfl (by rfl) (fun K' hK' => ?_)
      go_simp
      exact hK' _ _ ⟨_, rfl, (fun _ _ => rfl), Grow.refl _, hf.world⟩
    · intro listed a W hf hun haf
      have hs1 : a.tmps.size = 51 := hf.alike.size.trans hsz
      have G3 : a.tmps[3]'(by rw [hs1]; decide) = .int .i64 tt := tmp_get ((hf.alike.same 3 (by decide)).trans F3) _
      refine wpOp_act rfl (by rfl) (fun K' hK' => ?_)
      go_simp
      exact hK' _ _ ⟨_, rfl, (fun _ _ => rfl), Grow.refl _, hf.world⟩
    · intro listed a W hf hun haf
      have hs1 : a.tmps.size = 51 := hf.alike.size.trans hsz
      have hB : Below w.heap.size w W := hf.world
      obtain ⟨v4, s4, q4⟩ := hf.slot 4 39 rfl (after_listed haf 4 (by kernel_rfl))
      have q4' : v4 = _ := q4
      subst q4'
      have G39 := tmp_get s4 (by rw [hs1]; decide)
      obtain ⟨v5, s5, q5⟩ := hf.slot 5 40 rfl (after_listed haf 5 (by kernel_rfl))
      have q5' : v5 = _ := q5
      subst q5'
      have G40 := tmp_get s5 (by rw [hs1]; decide)
      obtain ⟨v6, s6, q6⟩ := hf.slot 6 41 rfl (after_listed haf 6 (by kernel_rfl))
      have q6' : v6 = _ := q6
      subst q6'
      have G41 := tmp_get s6 (by rw [hs1]; decide)
      have c1 : tt ≤ bc := by omega
      have c2 : fr ≤ tt := by omega
      refine wpOp_act rfl (by rfl) (fun K' hK' => ?_)
      go_simp
      exact hK' _ _ ⟨_, rfl, (fun _ _ => by have := bv_cut (H.out.grow hB) (i := fr) (j := tt) (by omega) (by omega); rw [show tt - fr = n by (have := Htt.out; omega), HP.out] at this; rw [show tt - fr = n by (have := Htt.out; omega)]; exact this), Grow.refl _, hf.world⟩
    · intro listed a W hf hun haf
      have hs1 : a.tmps.size = 51 := hf.alike.size.trans hsz
      have hB : Below w.heap.size w W := hf.world
      obtain ⟨v7, s7, q7⟩ := hf.slot 7 42 rfl (after_listed haf 7 (by kernel_rfl))
      have G42 := tmp_get s7 (by rw [hs1]; decide)
      obtain ⟨xa, xc, rfl⟩ := Bv.slice q7
      refine wpOp_act rfl (by rfl) (fun K' hK' => ?_)
      go_simp
      exact hK' _ (W.alloc (.cells #[.slice xa P.length xc] 23)) ⟨_, rfl, (fun _ _ => ⟨W.heap.size, _, rfl, heap_alloc_new _ _, Bv.grow q7 (Grow.alloc _ _)⟩), (Grow.alloc _ _), hB.trans ((Grow.alloc _ _).mono hB.size)⟩
    · intro listed a W hf hun haf
      have hs1 : a.tmps.size = 51 := hf.alike.size.trans hsz
      have hB : Below w.heap.size w W := hf.world
      obtain ⟨v8, s8, q8⟩ := hf.slot 8 43 rfl (after_listed haf 8 (by kernel_rfl))
      obtain ⟨b8, p8, q8, c8, d8⟩ := q8
      have q8' : v8 = _ := q8
      subst q8'
      have G43 := tmp_get s8 (by rw [hs1]; decide)
      refine wpOp_call rfl (by rfl) (by go_simp) (sum_any c8 d8) ?_
      rintro e w7 ⟨rfl, hg7⟩
      exact ⟨_, rfl, _, rfl, (fun _ _ => rfl), hg7, hB.trans (hg7.mono hB.size)⟩
    · intro listed a W hf hun haf
      have hs1 : a.tmps.size = 51 := hf.alike.size.trans hsz
      have hB : Below w.heap.size w W := hf.world
      obtain ⟨v9, s9, q9⟩ := hf.slot 9 44 rfl (after_listed haf 9 (by kernel_rfl))
      have q9' : v9 = _ := q9
      subst q9'
      have G44 := tmp_get s9 (by rw [hs1]; decide)
      have hwr : IntKind.u64.wrap ((sumD crcTab P : Nat) : Int) = ((sumD crcTab P : Nat) : Int) := by have := sumD_lt P; simp [IntKind.wrap, IntKind.bits, IntKind.signed]; omega
      refine wpOp_act rfl (by rfl) (fun K' hK' => ?_)
      go_simp
      exact hK' _ _ ⟨_, rfl, (fun _ _ => rfl), Grow.refl _, hf.world⟩
    · intro listed a W hf hun haf
      have hs1 : a.tmps.size = 51 := hf.alike.size.trans hsz
      have hB : Below w.heap.size w W := hf.world
      obtain ⟨v10, s10, q10⟩ := hf.slot 10 45 rfl (after_listed haf 10 (by kernel_rfl))
      have q10' : v10 = _ := q10
      subst q10'
      have G45 := tmp_get s10 (by rw [hs1]; decide)
      refine wpOp_call rfl (by rfl) (by go_simp) (low_any (B := W.heap.size) (l := []) (row1_nil _ _ W) (Nat.le_refl _) (by simp) _ (sumD_lt P)) ?_
      rintro e w7 ⟨v7, rfl, ho7, hg7⟩
      exact ⟨_, rfl, _, rfl, (fun _ _ => ownB_bv ho7), hg7, hB.trans (hg7.mono hB.size)⟩
    · intro listed a W hf hun haf
      have hs1 : a.tmps.size = 51 := hf.alike.size.trans hsz
      have hB : Below w.heap.size w W := hf.world
      obtain ⟨v3, s3, q3⟩ := hf.slot 3 38 rfl (after_listed haf 3 (by kernel_rfl))
      have G38 := tmp_get s3 (by rw [hs1]; decide)
      obtain ⟨v11, s11, q11⟩ := hf.slot 11 46 rfl (after_listed haf 11 (by kernel_rfl))
      have G46 := tmp_get s11 (by rw [hs1]; decide)
      have q3b : Bv W v3 A := q3
      have q11b : Bv W v11 (lowD 4 (sumD crcTab P)) := q11
      refine wpOp_call rfl (by rfl) (by go_simp) (equal_any q3b q11b) ?_
      rintro e w7 ⟨rfl, hg7⟩
      exact ⟨_, rfl, _, rfl, (fun _ _ => rfl), hg7, hB.trans (hg7.mono hB.size)⟩
    · intro listed a W hf hun haf
      have hs1 : a.tmps.size = 51 := hf.alike.size.trans hsz
      have hB : Below w.heap.size w W := hf.world
      obtain ⟨v12, s12, q12⟩ := hf.slot 12 47 rfl (after_listed haf 12 (by kernel_rfl))
      have q12' : v12 = _ := q12
      subst q12'
      have G47 := tmp_get s12 (by rw [hs1]; decide)
      refine wpOp_act rfl (by rfl) (fun K' hK' => ?_)
      go_simp
      exact hK' _ _ ⟨_, rfl, (fun _ _ => rfl), Grow.refl _, hf.world⟩
  case rest =>
    obtain ⟨rfl, hg⟩ := hcut
    by_cases h4 : A = lowD 4 (sumD crcTab P)
    · rw [if_neg (by simpa using h4)] at Hdef
      have e4 : decide (A = lowD 4 (sumD crcTab P)) = true := by simpa using h4
      rw [e4]
      clear h4 e4
      go_wp2
      go_ret3
      rw [Hdef.out]
      exact ⟨rfl, hg⟩
    · rw [if_pos h4] at Hdef
      have e4 : decide (A = lowD 4 (sumD crcTab P)) = false := by simpa using h4
      rw [e4]
      clear h4 e4
      go_wp2
      go_ret3
      rw [Hdef.out]
      exact ⟨rfl, hg⟩
end Go.Proofs.YtpiedpdffkfhpaaDoor

/- codec.ReadFrames. -/
namespace Go.Proofs.YtpiedpdffkfhpaaDoor
open Go.RowKit Go.Gl Go.Wal

/-- A row of payloads of one's own, each with bytes of its own. -/
def OwnR (B : Nat) (w : World) (v : Value) (ps : List (List UInt8)) : Prop :=
  ∃ vals, Row1 23 B w v vals ∧ vals.length = ps.length ∧ ∀ (i : Nat) (u : Value) (p : List UInt8), vals[i]? = some u → ps[i]? = some p → OwnB B w u p

theorem ownR_nil (B : Nat) (w : World) : OwnR B w (.slice none 0 0) [] := ⟨[], row1_nil _ _ _, rfl, fun i u p h => by simp at h⟩
theorem OwnR.slice {B : Nat} {w : World} {v : Value} {ps : List (List UInt8)} (h : OwnR B w v ps) : ∃ a c, v = .slice a ps.length c := by
  obtain ⟨vals, h1, h2, _⟩ := h
  obtain ⟨a, c, h3⟩ := h1.slice
  exact ⟨a, c, by rw [h3, h2]⟩
theorem OwnR.grow {B : Nat} {w w' : World} {v : Value} {ps : List (List UInt8)} (h : OwnR B w v ps) (hg : Grow w w') : OwnR B w' v ps := by
  obtain ⟨vals, h1, h2, h3⟩ := h
  exact ⟨vals, h1.grow hg, h2, fun i u p hu hp => (h3 i u p hu hp).grow hg⟩
theorem OwnR.mono {B B' : Nat} {w : World} {v : Value} {ps : List (List UInt8)} (h : OwnR B w v ps) (hB : B' ≤ B) : OwnR B' w v ps := by
  obtain ⟨vals, h1, h2, h3⟩ := h
  exact ⟨vals, h1.mono hB, h2, fun i u p hu hp => (h3 i u p hu hp).mono hB⟩

theorem OwnR.rv {B : Nat} {w : World} {v : Value} {ps : List (List UInt8)} (h : OwnR B w v ps) : Rv w v ps := by
  obtain ⟨vals, h1, h2, h3⟩ := h
  rcases h1 with ⟨rfl, rfl⟩ | ⟨g, cap, cur, rfl, hB, hg, hn, hc, hm, ht⟩
  · have : ps = [] := List.eq_nil_of_length_eq_zero h2.symm
    subst this
    exact ⟨none, 0, rfl, .inl rfl⟩
  · have hrow : Row1 23 B w (.slice (some ⟨g, 0, none⟩) vals.length cap) vals := .inr ⟨g, cap, cur, rfl, hB, hg, hn, hc, hm, ht⟩
    refine ⟨some ⟨g, 0, none⟩, cap, by rw [h2], .inr ⟨g, 0, rfl, lt_of_getElem? hg, fun j p hp => ?_⟩⟩
    obtain ⟨u, hu⟩ : ∃ u, vals[j]? = some u := by
      have := (List.getElem?_eq_some_iff.1 hp).1
      exact ⟨vals[j]'(by omega), by simp [show j < vals.length by omega]⟩
    exact ⟨u, by rw [Nat.zero_add]; exact hrow.cells rfl hu, ownB_bv (h3 j u p hu hp)⟩

theorem OwnB.oneCell {B : Nat} {w : World} {v : Value} {l : List UInt8} (h : OwnB B w v l) : v.oneCell' = true := by
  obtain ⟨a, c, rfl⟩ := h.slice
  rfl

/-- 'append(rows, p)' of a row of bytes of its own. -/
theorem append_own {B : Nat} {w : World} {v u : Value} {ps : List (List UInt8)} {p : List UInt8} (h : OwnR B w v ps) (hu : OwnB B w u p) (hB : B ≤ w.heap.size) (hlen : ps.length + 1 ≤ 1000000000000) :
    ∃ v' w', (Builtin.append_ #[22, 22] 22 #[v, .slice (some ⟨w.heap.size, 0, none⟩) 1 1]).run Tryd.prog (w.alloc (.cells #[u] 23)) = .ok v' w' ∧ OwnR B w' v' (ps ++ [p]) ∧ Below B w w' := by
  obtain ⟨vals, h1, h2, h3⟩ := h
  have hga : Grow w (w.alloc (.cells #[u] 23)) := Grow.alloc _ _
  have hsrc : Src Tryd.prog 1 22 (.slice (some ⟨w.heap.size, 0, none⟩) 1 1) 1 [u] (w.alloc (.cells #[u] 23)) :=
    Src.ofSlice _ Tryd.underlying22 _ _ _ _ rfl (cell_one_new w u _) (fun x hx => by rw [List.mem_singleton.1 hx]; exact hu.oneCell)
  obtain ⟨v', w', r1, r2, r3, r4⟩ := run_append_row (ty := 22) Tryd.underlying22 Tryd.infoR rfl (h1.grow hga) hsrc (by simp; omega) (by rw [h2]; unfold maxLen; omega) (by rw [h2]; omega)
  have hne : ∀ b x q, OwnB B w x q → x.ownBlock = some b → w'.heap[b]? = w.heap[b]? := fun b x q hx hb => by
    have hx' : OwnB B (w.alloc (.cells #[u] 23)) x q := hx.grow hga
    obtain ⟨cur, hc⟩ := hx'.block hb
    rw [r3.block b (lt_of_getElem? hc) (fun he => (h1.grow hga).apart hc (by decide) he.symm)]
    exact hga.block b (hx.lt hb).2
  refine ⟨v', w', r1, ⟨vals ++ [u], r2, by simp [h2], fun i x q hx hq => ?_⟩, below_grown (hga.mono hB) (by simp; omega) (h1.grow hga) r3⟩
  by_cases hi : i < vals.length
  · rw [List.getElem?_append_left hi] at hx
    rw [List.getElem?_append_left (by omega)] at hq
    exact (h3 i x q hx hq).keep (fun b hb => hne b x q (h3 i x q hx hq) hb)
  · have hiv : i = vals.length := by
      have := (List.getElem?_eq_some_iff.1 hx).1
      simp at this; omega
    subst hiv
    simp at hx
    rw [h2] at hq
    simp at hq
    subst hx hq
    exact hu.keep (fun b hb => hne b u p hu hb)

theorem fr_le (T : List Nat) (b : List UInt8) (h : (frD T b).2.2 = 0) : 0 < (frD T b).2.1 ∧ (frD T b).1 ≤ (frD T b).2.1 ∧ (frD T b).2.1 ≤ b.length := by
  unfold frD at h ⊢
  split
  · rename_i h1; rw [if_pos h1] at h; exact absurd h h1
  · rename_i h1
    rw [if_neg h1] at h
    split
    · rename_i h2; rw [if_pos h2] at h; cases h
    · rename_i h2
      rw [if_neg h2] at h
      split
      · rename_i h3; rw [if_pos h3] at h; cases h
      · rename_i h3
        rw [if_neg h3] at h
        split
        · rename_i h4; rw [if_pos h4] at h; cases h
        · simp; omega

def RfInv (w : World) (l : List UInt8) (ov av : Value) (wr : World) : Prop :=
  ∃ (k at' : Nat) (ps : List (List UInt8)), av = .int .i64 at' ∧ at' ≤ l.length ∧ OwnR w.heap.size wr ov ps ∧ ps.length ≤ at' ∧ (l.drop at').length < k ∧ rfD crcTab l = (ps ++ (rfF crcTab k (l.drop at')).1, at' + (rfF crcTab k (l.drop at')).2.1, (rfF crcTab k (l.drop at')).2.2) ∧ Grow w wr

set_option maxRecDepth 100000 in
set_option maxHeartbeats 4000000 in
theorem readFrames_any {w : World} {bv : Value} {l : List UInt8} (h : Bv w bv l) (hl : l.length ≤ 900000000000) :
    Calls Tryd.prog 22 #[bv] w fun e w' => ∃ rv, e = .returned (.tuple #[rv, .int .i64 ((rfD crcTab l).2.1 : Nat), .int .i64 ((rfD crcTab l).2.2 : Nat)]) ∧ OwnR w.heap.size w' rv (rfD crcTab l).1 ∧ Grow w w' := by
  obtain ⟨ba, bc, rfl⟩ := h.slice
  have hbc : l.length ≤ bc := by obtain ⟨_, _, he, hlc, _⟩ := h; cases he; exact hlc
  have H := Lib.hid h
  clear h
  go_enter Tryd.func22, Tryd.ntmps22
  go_wp2_with fail
  go_loopw [5, 6] (fun ov av wr => RfInv w l ov av wr) (fun _ av _ => l.length - (intOf av).toNat)
  case atStart => exact ⟨l.length + 1, 0, [], rfl, Nat.zero_le _, ownR_nil _ _, Nat.le_refl _, by simp, by simp [rfD], Grow.refl _⟩
  case round =>
    obtain ⟨k, at', ps, rfl, hat, hown, hpl, hk, hrf, hg⟩ := hrel
    obtain ⟨k, rfl⟩ : ∃ k', k = k' + 1 := ⟨k - 1, by omega⟩
    rw [rfF] at hrf
    by_cases hlt : at' < l.length
    · have hne : ¬ l.drop at' = [] := by intro h0; have := congrArg List.length h0; simp at this; omega
      rw [if_neg hne] at hrf
      have hcut := bv_cut (H.out.grow hg) (i := at') (j := l.length) (by omega) (Nat.le_refl _)
      rw [show (l.drop at').take (l.length - at') = l.drop at' from List.take_of_length_le (by simp), if_neg (by omega)] at hcut
      have hfr := codec_frame hcut (by simp; omega)
      have hle := fr_le crcTab (l.drop at')
      have hlen : (l.drop at').length = l.length - at' := by simp
      have hi1 : (at' : Int) < (l.length : Int) := by omega
      have c1 : at' ≤ bc := by omega
      have Hfr := Lib.hid hfr
      have Hrf := Lib.hid hrf
      have Hown := Lib.hid hown
      have Hg := Lib.hid hg
      obtain ⟨oa, oc, rfl⟩ := hown.slice
      clear hcut hfr hrf hown hg hne
      go_wp2_with fail
      (with_reducible refine Hfr.out.mono ?_)
      rintro e w2 ⟨rfl, hg2⟩
      generalize frD crcTab (l.drop at') = R at *
      obtain ⟨fr, tt, er⟩ := R
      dsimp only at hle Hrf ⊢
      by_cases her : er = 0
      · subst her
        obtain ⟨ht0, hft, htl⟩ := hle rfl
        rw [if_neg (by simp)] at Hrf
        obtain ⟨i1, hi1d⟩ : ∃ i : Nat, i = at' + fr := ⟨_, rfl⟩
        obtain ⟨j1, hj1d⟩ : ∃ j : Nat, j = at' + tt := ⟨_, rfl⟩
        have s1 : (at' : Int) + (fr : Int) = (i1 : Int) := by omega
        have s2 : (at' : Int) + (tt : Int) = (j1 : Int) := by omega
        have hg3 := Hg.out.trans hg2
        have hcut := bv_cut (H.out.grow hg3) (i := i1) (j := j1) (by omega) (by omega)
        have hP : (l.drop i1).take (j1 - i1) = ((l.drop at').drop fr).take (tt - fr) := by rw [List.drop_drop, hi1d, hj1d, show at' + tt - (at' + fr) = tt - fr by omega]
        rw [hP] at hcut
        have hnext : l.drop j1 = (l.drop at').drop tt := by rw [List.drop_drop, hj1d]
        have hpl2 : (((l.drop at').drop fr).take (tt - fr)).length ≤ 900000000000 := by simp; omega
        generalize ((l.drop at').drop fr).take (tt - fr) = p at *
        have b1 : i1 ≤ j1 := by omega
        have b2 : j1 ≤ bc := by omega
        have b3 : j1 ≤ l.length := by omega
        have b4 : at' < j1 := by omega
        have e0 : ((0 : Int) != 0) = false := rfl
        have Hnext := Lib.hid hnext
        have Hown2 := Lib.hid (Hown.out.grow hg2)
        have Hg3 := Lib.hid hg3
        have Hdj := Lib.hid hj1d
        clear hP hnext hg3 hg2 hi1d hj1d Hfr hle hft htl ht0 Hown
        by_cases hb : bc = i1
        · subst hb
          rw [if_pos rfl, Nat.sub_self, show j1 - bc = 0 by omega] at hcut
          have hclone := clone_any hcut (by omega)
          have Hclone := Lib.hid hclone
          clear hclone hcut
          go_wp2_with fail
          (with_reducible refine Hclone.out.mono ?_)
          rintro e w4 ⟨cv, rfl, hc4, hg4⟩
          have hg5 := Hg3.out.trans hg4
          obtain ⟨v', w', r1, r2, r3⟩ := append_own (Hown2.out.grow hg4) (hc4.mono Hg3.out.size) hg5.size (by omega)
          obtain ⟨ca, cc, rfl⟩ := hc4.slice
          have hrel : RfInv w l v' (.int .i64 j1) w' := by
            refine ⟨k, j1, ps ++ [p], rfl, b3, r2, by simp; omega, ?_, ?_, Below.trans hg5 r3⟩
            · simp at hk ⊢; omega
            · rw [Hrf.out, Hnext.out, Hdj.out]
              refine Prod.ext (by simp) (Prod.ext ?_ rfl)
              simp; omega
          have Hrel := Lib.hid hrel
          have Hrun := Lib.hid r1
          clear hrel r1 r2 r3 hc4 hg4 hg5
          go_wp2_with (at_builtin; refine wpList_append rfl rfl rfl rfl Hrun.out ?_)
          go_roundw
          case rel => exact Hrel.out
          case measure => simp [intOf]; omega
        · skip
          rw [if_neg hb] at hcut
          have hclone := clone_any hcut (by omega)
          have Hclone := Lib.hid hclone
          clear hclone hcut
          go_wp2_with fail
          (with_reducible refine Hclone.out.mono ?_)
          rintro e w4 ⟨cv, rfl, hc4, hg4⟩
          have hg5 := Hg3.out.trans hg4
          obtain ⟨v', w', r1, r2, r3⟩ := append_own (Hown2.out.grow hg4) (hc4.mono Hg3.out.size) hg5.size (by omega)
          obtain ⟨ca, cc, rfl⟩ := hc4.slice
          have hrel : RfInv w l v' (.int .i64 j1) w' := by
            refine ⟨k, j1, ps ++ [p], rfl, b3, r2, by simp; omega, ?_, ?_, Below.trans hg5 r3⟩
            · simp at hk ⊢; omega
            · rw [Hrf.out, Hnext.out, Hdj.out]
              refine Prod.ext (by simp) (Prod.ext ?_ rfl)
              simp; omega
          have Hrel := Lib.hid hrel
          have Hrun := Lib.hid r1
          clear hrel r1 r2 r3 hc4 hg4 hg5
          go_wp2_with (at_builtin; refine wpList_append rfl rfl rfl rfl Hrun.out ?_)
          go_roundw
          case rel => exact Hrel.out
          case measure => simp [intOf]; omega
      · have e0 : ((er : Int) != 0) = true := by simp; omega
        rw [if_pos her] at Hrf
        have her' : er ≠ 0 := her
        clear her
        go_wp2
        refine bodyPost_ret (v := .tuple #[.slice oa ps.length oc, .int .i64 ((rfD crcTab l).2.1 : Nat), .int .i64 ((rfD crcTab l).2.2 : Nat)]) ?_ rfl ⟨_, rfl, ?_, Hg.out.trans hg2⟩
        · rw [Hrf.out]
          simp [results, Tryd.results22, go_sem]
        · rw [Hrf.out]
          simp only [List.append_nil]
          exact Hown.out.grow hg2
    · have hdr : l.drop at' = [] := List.drop_eq_nil_of_le (by omega)
      rw [if_pos hdr] at hrf
      have Hrf := Lib.hid hrf
      have Hown := Lib.hid hown
      obtain ⟨oa, oc, rfl⟩ := hown.slice
      have hlt' : l.length ≤ at' := by omega
      clear hrf hown hdr hk
      go_wp2
      refine bodyPost_ret (v := .tuple #[.slice oa ps.length oc, .int .i64 ((rfD crcTab l).2.1 : Nat), .int .i64 ((rfD crcTab l).2.2 : Nat)]) ?_ rfl ⟨_, rfl, ?_, hg⟩
      · rw [Hrf.out]
        simp [results, Tryd.results22, go_sem]
      · rw [Hrf.out]
        simp only [List.append_nil]
        exact Hown.out
end Go.Proofs.YtpiedpdffkfhpaaDoor
