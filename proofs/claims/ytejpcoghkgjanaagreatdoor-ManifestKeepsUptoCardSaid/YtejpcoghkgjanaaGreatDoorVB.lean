/- Merged out of P1, C0, C1, C2, C3, C4, C5, C6: helpers. -/
import Derived.Test.YtejpcoghkgjanaaGreatDoorVA
import Derived.Test.YtejpcoghkgjanaaGreatDoorRows
import Derived.Deep.QuietTactic
import Derived.BigQuiet
import Derived.Lib.Hide
import Derived.Laws.Cover1
import Derived.Laws.BitsAllLaws
import Derived.Laws.ShiftsVarLaws
/- Plain: numbers, sums, frames as lists of bytes; no program in sight. -/
namespace Go.Wal

/-- A number's bytes: seven bits each, the lowest first. -/
def numF : Nat → Nat → List UInt8
  | 0, _ => []
  | k + 1, n => if n < 128 then [UInt8.ofNat n] else UInt8.ofNat (n % 128 + 128) :: numF k (n / 128)
def numD (n : Nat) : List UInt8 := numF 10 n

/-- Reads a number: what it is, how many bytes it has, the error's number. -/
def rnF : Nat → Nat → List UInt8 → Nat × Nat × Nat
  | _, _, [] => (0, 0, 11)
  | i, v, c :: r =>
    if i = 9 ∧ 1 < c.toNat then (0, 0, 12) else
    if c.toNat < 128 then (if c.toNat = 0 ∧ 0 < i then (0, 0, 12) else (v + c.toNat * 128 ^ i, i + 1, 0)) else
    rnF (i + 1) (v + (c.toNat - 128) * 128 ^ i) r
def rnD (b : List UInt8) : Nat × Nat × Nat := rnF 0 0 b

/-- The remainders of half a byte. -/
def crcTab : List Nat := [0, 274646895, 549293790, 820201905, 1098587580, 1361435347, 1640403810, 1905808397, 2197175160, 2460548119, 2722870694, 2987750089, 3280807620, 3553878443, 3811616794, 4084100981]

def crcHalf (T : List Nat) (c : Nat) : Nat := (c / 16) ^^^ (T.getD (c &&& 15) 0)
def crcByte (T : List Nat) (c : Nat) (b : UInt8) : Nat := crcHalf T (crcHalf T (c ^^^ b.toNat))
def crcAll (T : List Nat) (b : List UInt8) : Nat := b.foldl (crcByte T) 4294967295
def sumD (T : List Nat) (b : List UInt8) : Nat := 4294967295 ^^^ crcAll T b

def lowD : Nat → Nat → List UInt8
  | 0, _ => []
  | k + 1, v => UInt8.ofNat (v % 256) :: lowD k (v / 256)

def frameD (T : List Nat) (p : List UInt8) : List UInt8 := numD p.length ++ (lowD 4 (sumD T p) ++ p)

/-- Reads a frame: where its payload lies, the error's number. -/
def frD (T : List Nat) (b : List UInt8) : Nat × Nat × Nat :=
  if (rnD b).2.2 ≠ 0 then (0, 0, (rnD b).2.2) else
  if 67108864 < (rnD b).1 then (0, 0, 3) else
  if b.length < (rnD b).2.1 + ((rnD b).1 + 4) then (0, 0, 11) else
  if (b.drop (rnD b).2.1).take 4 ≠ lowD 4 (sumD T ((b.drop ((rnD b).2.1 + 4)).take (rnD b).1)) then (0, 0, 13) else
  ((rnD b).2.1 + 4, (rnD b).2.1 + 4 + (rnD b).1, 0)

/-- Reads frames: the payloads, how many bytes they take, the error's number. -/
def rfF (T : List Nat) : Nat → List UInt8 → List (List UInt8) × Nat × Nat
  | 0, _ => ([], 0, 0)
  | k + 1, b => if b = [] then ([], 0, 0) else
    if (frD T b).2.2 ≠ 0 then ([], 0, (frD T b).2.2) else
    ((b.drop (frD T b).1).take ((frD T b).2.1 - (frD T b).1) :: (rfF T k (b.drop (frD T b).2.1)).1, (frD T b).2.1 + (rfF T k (b.drop (frD T b).2.1)).2.1, (rfF T k (b.drop (frD T b).2.1)).2.2)
def rfD (T : List Nat) (b : List UInt8) : List (List UInt8) × Nat × Nat := rfF T (b.length + 1) b

theorem lowD_len : ∀ (k v : Nat), (lowD k v).length = k
  | 0, _ => rfl
  | k + 1, v => by simp [lowD, lowD_len k]

theorem numF_len : ∀ (k n : Nat), (numF k n).length ≤ k
  | 0, _ => by simp [numF]
  | k + 1, n => by
    unfold numF
    split
    · simp
    · have := numF_len k (n / 128); simp; omega
theorem numF_pos (k n : Nat) : 0 < (numF (k + 1) n).length := by
  unfold numF
  split <;> simp

/-- What is written is read. -/
theorem rn_num : ∀ (k n i v : Nat) (r : List UInt8), n < 128 ^ k → i + k ≤ 9 → 0 < k → (i = 0 ∨ 0 < n) →
    rnF i v (numF k n ++ r) = (v + n * 128 ^ i, i + (numF k n).length, 0)
  | 0, n, i, v, r, hn, hik, hk, _ => by omega
  | k + 1, n, i, v, r, hn, hik, hk, h0 => by
    unfold numF
    by_cases h : n < 128
    · rw [if_pos h]
      simp only [List.cons_append, List.nil_append, rnF]
      have e : (UInt8.ofNat n).toNat = n := by rw [UInt8.toNat_ofNat_of_lt' (by simp [UInt8.size]; omega)]
      rw [e, if_neg (by omega), if_pos h, if_neg (by omega)]
      simp
    · rw [if_neg h]
      have e : (UInt8.ofNat (n % 128 + 128)).toNat = n % 128 + 128 := by rw [UInt8.toNat_ofNat_of_lt' (by simp [UInt8.size]; omega)]
      simp only [List.cons_append, rnF]
      rw [e, if_neg (by omega), if_neg (by omega)]
      have hk1 : 0 < k := by
        rcases Nat.eq_zero_or_pos k with rfl | h1
        · simp at hn; omega
        · exact h1
      have hlt : n / 128 < 128 ^ k := by rw [Nat.pow_succ] at hn; exact Nat.div_lt_of_lt_mul (by rw [Nat.mul_comm]; exact hn)
      rw [rn_num k (n / 128) (i + 1) _ r hlt (by omega) hk1 (.inr (by omega))]
      refine Prod.ext ?_ (Prod.ext ?_ rfl)
      · show v + (n % 128 + 128 - 128) * 128 ^ i + n / 128 * 128 ^ (i + 1) = v + n * 128 ^ i
        rw [Nat.add_sub_cancel, Nat.pow_succ, Nat.add_assoc]
        congr 1
        have : n = n % 128 + 128 * (n / 128) := (Nat.mod_add_div n 128).symm
        conv => rhs; rw [this]
        rw [Nat.add_mul]
        congr 1
        rw [Nat.mul_comm (128 ^ i) 128, ← Nat.mul_assoc, Nat.mul_comm (n / 128) 128]
      · simp; omega

/-- A number that is cut cannot be read. -/
theorem rn_cut : ∀ (k n i v m : Nat), i + k ≤ 9 → m < (numF k n).length → (rnF i v ((numF k n).take m)) = (0, 0, 11)
  | 0, n, i, v, m, _, hm => by simp [numF] at hm
  | k + 1, n, i, v, m, hik, hm => by
    cases m with
    | zero => simp [rnF]
    | succ m =>
      unfold numF at hm ⊢
      by_cases h : n < 128
      · rw [if_pos h] at hm; simp at hm
      · rw [if_neg h] at hm ⊢
        have e : (UInt8.ofNat (n % 128 + 128)).toNat = n % 128 + 128 := by rw [UInt8.toNat_ofNat_of_lt' (by simp [UInt8.size]; omega)]
        simp only [List.take_succ_cons, rnF]
        rw [e, if_neg (by omega), if_neg (by omega)]
        simp only [List.length_cons] at hm
        exact rn_cut k (n / 128) (i + 1) _ m (by omega) (by omega)

theorem numF_more : ∀ (k n : Nat), n < 128 ^ k → 0 < k → numF (k + 1) n = numF k n
  | 0, _, _, h => by omega
  | k + 1, n, hn, _ => by
    conv => lhs; rw [numF]
    conv => rhs; rw [numF]
    by_cases h : n < 128
    · rw [if_pos h, if_pos h]
    · rw [if_neg h, if_neg h]
      have hlt : n / 128 < 128 ^ k := by rw [Nat.pow_succ] at hn; exact Nat.div_lt_of_lt_mul (by rw [Nat.mul_comm]; exact hn)
      have hk1 : 0 < k := by
        rcases Nat.eq_zero_or_pos k with rfl | h1
        · simp at hn; omega
        · exact h1
      rw [numF_more k (n / 128) hlt hk1]

theorem numD_eq {n : Nat} (h : n ≤ 67108864) : numD n = numF 9 n := numF_more 9 n (by omega) (by decide)

theorem rn_numD {n : Nat} (h : n ≤ 67108864) (r : List UInt8) : rnD (numD n ++ r) = (n, (numD n).length, 0) := by
  rw [numD_eq h]
  have := rn_num 9 n 0 0 r (by omega) (by decide) (by decide) (.inl rfl)
  unfold rnD
  rw [this]
  simp

theorem rn_numD_cut {n m : Nat} (h : n ≤ 67108864) (hm : m < (numD n).length) : rnD ((numD n).take m) = (0, 0, 11) := by
  rw [numD_eq h] at hm ⊢
  exact rn_cut 9 n 0 0 m (by decide) hm

theorem numD_pos (n : Nat) : 0 < (numD n).length := numF_pos 9 n

theorem frame_len (T : List Nat) (p : List UInt8) : (frameD T p).length = (numD p.length).length + (4 + p.length) := by
  simp [frameD, lowD_len]

/-- A frame is read. -/
theorem fr_frame (T : List Nat) {p : List UInt8} (h : p.length ≤ 67108864) (r : List UInt8) : frD T (frameD T p ++ r) = ((numD p.length).length + 4, (frameD T p).length, 0) := by
  have hrn : rnD (frameD T p ++ r) = (p.length, (numD p.length).length, 0) := by
    unfold frameD
    rw [List.append_assoc]
    exact rn_numD h _
  unfold frD
  rw [hrn]
  have hl := frame_len T p
  rw [if_neg (by simp), if_neg (by simp; omega), if_neg (by simp; omega)]
  have e1 : ((frameD T p ++ r).drop (numD p.length).length) = lowD 4 (sumD T p) ++ (p ++ r) := by
    unfold frameD; rw [List.append_assoc, List.drop_left, List.append_assoc]
  have e2 : ((frameD T p ++ r).drop ((numD p.length).length + 4)) = p ++ r := by
    rw [← List.drop_drop, e1]
    exact List.drop_left' (lowD_len 4 _)
  rw [if_neg ?_]
  · refine Prod.ext rfl (Prod.ext ?_ rfl)
    simp only
    rw [hl]; omega
  · simp only [e1, e2, ne_eq, Decidable.not_not]
    rw [List.take_left' (lowD_len 4 _), List.take_left]

/-- A frame that is cut is not read. -/
theorem fr_cut (T : List Nat) {p : List UInt8} (h : p.length ≤ 67108864) {m : Nat} (hm : m < (frameD T p).length) : frD T ((frameD T p).take m) = (0, 0, 11) := by
  have hl := frame_len T p
  by_cases h1 : m < (numD p.length).length
  · have : (frameD T p).take m = (numD p.length).take m := by
      unfold frameD
      rw [List.take_append_of_le_length (by omega)]
    rw [this]
    unfold frD
    rw [rn_numD_cut h h1]
    simp
  · have : (frameD T p).take m = numD p.length ++ (lowD 4 (sumD T p) ++ p).take (m - (numD p.length).length) := by
      unfold frameD
      rw [List.take_append, List.take_of_length_le (by omega)]
    have hrn : rnD ((frameD T p).take m) = (p.length, (numD p.length).length, 0) := by rw [this]; exact rn_numD h _
    have hlen : ((frameD T p).take m).length = m := by simp; omega
    unfold frD
    rw [hrn, hlen]
    rw [if_neg (by simp), if_neg (by simp; omega), if_pos (by simp; omega)]

/-- Frames behind one another. -/
def framesD (T : List Nat) (ps : List (List UInt8)) : List UInt8 := ps.flatMap (frameD T)

theorem frame_ne (T : List Nat) (p : List UInt8) : 0 < (frameD T p).length := by rw [frame_len]; omega

theorem rf_frames (T : List Nat) : ∀ (ps : List (List UInt8)) (k : Nat) (t : List UInt8), (∀ p ∈ ps, p.length ≤ 67108864) → (framesD T ps ++ t).length < k →
    rfF T k (framesD T ps ++ t) = (ps ++ (rfF T (k - ps.length) t).1, (framesD T ps).length + (rfF T (k - ps.length) t).2.1, (rfF T (k - ps.length) t).2.2)
  | [], k, t, _, _ => by simp [framesD]
  | p :: ps, 0, t, _, hk => by omega
  | p :: ps, k + 1, t, hp, hk => by
    have e : framesD T (p :: ps) ++ t = frameD T p ++ (framesD T ps ++ t) := by simp [framesD]
    have hl := frame_ne T p
    rw [e, rfF, if_neg (by intro h0; rw [h0] at e; have := congrArg List.length h0; simp at this; rw [this.1] at hl; simp at hl), fr_frame T (hp p (by simp))]
    rw [if_neg (by simp)]
    have hfl := frame_len T p
    have hlen : (framesD T ps ++ t).length < k := by
      have := congrArg List.length e
      simp only [List.length_append] at this hk ⊢
      omega
    have ih := rf_frames T ps k t (fun q hq => hp q (by simp [hq])) hlen
    simp only [List.drop_left]
    rw [ih]
    have e2 : (List.drop ((numD p.length).length + 4) (frameD T p ++ (framesD T ps ++ t))).take ((frameD T p).length - ((numD p.length).length + 4)) = p := by
      have e3 : (frameD T p ++ (framesD T ps ++ t)).drop ((numD p.length).length + 4) = p ++ (framesD T ps ++ t) := by
        unfold frameD
        rw [List.append_assoc, ← List.drop_drop, List.drop_left, List.append_assoc]
        exact List.drop_left' (lowD_len 4 _)
      rw [e3, hfl, show (numD p.length).length + (4 + p.length) - ((numD p.length).length + 4) = p.length by omega, List.take_left]
    rw [e2]
    have e4 : k + 1 - (p :: ps).length = k - ps.length := by simp
    rw [e4]
    refine Prod.ext (by simp) (Prod.ext ?_ rfl)
    simp only [framesD, List.flatMap_cons, List.length_append]
    omega

/-- Whole frames, and perhaps the front of one more. -/
theorem rf_torn (T : List Nat) (ps : List (List UInt8)) {p : List UInt8} {m : Nat} (hps : ∀ p ∈ ps, p.length ≤ 67108864) (hp : p.length ≤ 67108864) (hm : m < (frameD T p).length) :
    rfD T (framesD T ps ++ (frameD T p).take m) = (ps, (framesD T ps).length, if m = 0 then 0 else 11) := by
  unfold rfD
  rw [rf_frames T ps _ _ hps (Nat.lt_succ_self _)]
  have hpl : ps.length ≤ (framesD T ps).length := by
    clear hps
    induction ps with
    | nil => simp
    | cons q qs ih => have := frame_ne T q; simp only [framesD, List.flatMap_cons, List.length_append, List.length_cons] at ih ⊢; omega
  have hk : ∃ k, (framesD T ps ++ (frameD T p).take m).length + 1 - ps.length = k + 1 := ⟨(framesD T ps ++ (frameD T p).take m).length - ps.length, by simp only [List.length_append] at *; omega⟩
  obtain ⟨k, hk⟩ := hk
  rw [hk, rfF]
  by_cases h0 : m = 0
  · subst h0; simp
  · rw [if_neg (by intro h1; have := congrArg List.length h1; rw [List.length_take, List.length_nil] at this; omega), fr_cut T hp hm]
    simp [h0]

theorem rf_whole (T : List Nat) (ps : List (List UInt8)) (hps : ∀ p ∈ ps, p.length ≤ 67108864) : rfD T (framesD T ps) = (ps, (framesD T ps).length, 0) := by
  have := rf_torn T ps (p := []) (m := 0) hps (by simp) (frame_ne T [])
  simpa using this
end Go.Wal

/- Slices of bytes as lists; rows of bytes of one's own. -/
namespace Go.Proofs.YtejpcoghkgjanaaGreatDoor
open Go.RowKit Go.Gl Go.Wal

/-- The value reads as the bytes l. -/
def Bv (w : World) (v : Value) (l : List UInt8) : Prop :=
  ∃ a c, v = .slice a l.length c ∧ l.length ≤ c ∧ c ≤ maxLen ∧ (a = none → c = 0) ∧ (l = [] ∨ ∃ b o, a = some ⟨b, o, none⟩ ∧ b < w.heap.size ∧ ∀ (j : Nat) (k : UInt8), l[j]? = some k → w.cell? ⟨b, o + j, none⟩ = some (.int .u8 k.toNat))

theorem Bv.grow {w w' : World} {v : Value} {l : List UInt8} (h : Bv w v l) (hg : Grow w w') : Bv w' v l := by
  obtain ⟨a, c, hv, hl, hm, hn, h⟩ := h
  refine ⟨a, c, hv, hl, hm, hn, ?_⟩
  rcases h with h | ⟨b, o, ha, hb, hc⟩
  · exact .inl h
  · refine .inr ⟨b, o, ha, Nat.lt_of_lt_of_le hb hg.size, fun j k hk => ?_⟩
    rw [Grow.cells _ _ _ hg hb]; exact hc j k hk

theorem Tryz.infoB : (Tryz.prog.info? 5).map (fun i => (i.zero, i.size, i.bytes)) = some (some (.int .u8 0), 1, 1) := by kernel_rfl
theorem Tryz.infoR : (Tryz.prog.info? 69).map (fun i => (i.zero, i.size, i.bytes)) = some (some (.slice none 0 0), 1, 24) := by kernel_rfl
theorem Tryz.infoS : (Tryz.prog.info? 60).map (fun i => (i.zero, i.size, i.bytes)) = some (some (.slice none 0 0), 1, 24) := by kernel_rfl
theorem Tryz.infoI : (Tryz.prog.info? 3).map (fun i => (i.zero, i.size, i.bytes)) = some (some (.int .i64 0), 1, 8) := by kernel_rfl
theorem Tryz.infoStr : (Tryz.prog.info? 9).map (fun i => (i.zero, i.size, i.bytes)) = some (some (.string ByteArray.empty), 1, 16) := by kernel_rfl

/-- A row of bytes of one's own. -/
abbrev OwnB (B : Nat) (w : World) (v : Value) (l : List UInt8) : Prop := Row1 5 B w v (bcells l)

theorem bcells_len (l : List UInt8) : (bcells l).length = l.length := by simp [bcells]
theorem bcells_append (a b : List UInt8) : bcells (a ++ b) = bcells a ++ bcells b := by simp [bcells]
theorem bcells_one (l : List UInt8) : ∀ u ∈ bcells l, u.oneCell' = true := fun u hu => by
  obtain ⟨x, _, rfl⟩ := List.mem_map.1 hu
  rfl

theorem ownB_bv {B : Nat} {w : World} {v : Value} {l : List UInt8} (h : OwnB B w v l) : Bv w v l := by
  rcases h with ⟨rfl, h0⟩ | ⟨g, cap, cur, rfl, hB, hg, hn, hc, hm, ht⟩
  · have : l = [] := List.eq_nil_of_length_eq_zero (by rw [← bcells_len, h0]; rfl)
    subst this
    exact ⟨none, 0, rfl, Nat.le_refl _, Nat.zero_le _, fun _ => rfl, .inl rfl⟩
  · have hrow : OwnB B w (.slice (some ⟨g, 0, none⟩) (bcells l).length cap) l := .inr ⟨g, cap, cur, rfl, hB, hg, hn, hc, hm, ht⟩
    rw [bcells_len] at hn
    refine ⟨some ⟨g, 0, none⟩, cap, by rw [bcells_len], hn, hm, (fun h => by cases h), .inr ⟨g, 0, rfl, lt_of_getElem? hg, fun j k hk => ?_⟩⟩
    rw [Nat.zero_add]
    exact hrow.cells rfl (by simp [bcells, hk])

theorem Bv.src {w : World} {v : Value} {l : List UInt8} (h : Bv w v l) : Src Tryz.prog 1 69 v l.length (bcells l) w := by
  obtain ⟨a, c, rfl, hl, hm, hn, h⟩ := h
  cases a with
  | none =>
    have hc := hn rfl
    have : l = [] := List.eq_nil_of_length_eq_zero (by omega)
    subst this
    exact Src.ofNil w Tryz.underlying69 c
  | some a =>
    refine Src.ofSlice w Tryz.underlying69 a l.length c (bcells l) (by simp [bcells]) (fun j u hu => ?_) (bcells_one l)
    simp only [bcells, List.getElem?_map, Option.map_eq_some_iff] at hu
    obtain ⟨x, hx, rfl⟩ := hu
    rcases h with rfl | ⟨b, o, ha, hb, hc⟩
    · simp at hx
    · cases ha
      rw [Addr.add_lit]
      exact hc j x hx

/-- 'append(b, p...)'. -/
theorem append_bytes {B : Nat} {w : World} {v pv : Value} {l p : List UInt8} (h : OwnB B w v l) (hp : Bv w pv p) (hB : B ≤ w.heap.size) (hlen : l.length + p.length ≤ 140737488355328) :
    ∃ v' w', (Builtin.append_ #[69, 69] 69 #[v, pv]).run Tryz.prog w = .ok v' w' ∧ OwnB B w' v' (l ++ p) ∧ w.grownBy w' v.ownBlock ∧ (v'.ownBlock = v.ownBlock ∨ v'.ownBlock = some w.heap.size) := by
  obtain ⟨v', w', h1, h2, h3, h4⟩ := run_append_row (ty := 69) Tryz.underlying69 Tryz.infoB rfl h hp.src hB (by rw [bcells_len]; unfold maxLen; omega) (by rw [bcells_len]; omega)
  exact ⟨v', w', h1, by rw [OwnB, bcells_append]; exact h2, h3, h4⟩

/-- 'append(b, x)'. -/
theorem append_byte {B : Nat} {w : World} {v : Value} {l : List UInt8} (h : OwnB B w v l) (x : UInt8) {n : Int} (hx : n = (x.toNat : Int)) (hB : B ≤ w.heap.size) (hlen : l.length + 1 ≤ 140737488355328) :
    ∃ v' w', (Builtin.append_ #[69, 69] 69 #[v, .slice (some ⟨w.heap.size, 0, none⟩) 1 1]).run Tryz.prog (w.alloc (.cells #[.int .u8 n] 5)) = .ok v' w' ∧ OwnB B w' v' (l ++ [x]) ∧ Below B w w' := by
  subst hx
  have hb : Bv (w.alloc (.cells #[.int .u8 x.toNat] 5)) (.slice (some ⟨w.heap.size, 0, none⟩) 1 1) [x] := by
    refine ⟨some ⟨w.heap.size, 0, none⟩, 1, rfl, Nat.le_refl _, by decide, (fun h => by cases h), .inr ⟨w.heap.size, 0, rfl, by simp, fun j k hk => ?_⟩⟩
    match j, hk with
    | 0, hk =>
      cases hk
      simp only [World.cell?, heap_alloc_new]
      rfl
    | j + 1, hk => simp at hk
  have hga : Grow w (w.alloc (.cells #[.int .u8 x.toNat] 5)) := Grow.alloc _ _
  obtain ⟨v', w', h1, h2, h3, _⟩ := append_bytes (h.grow hga) hb (by simp; omega) (by simpa using hlen)
  exact ⟨v', w', h1, h2, below_grown (hga.mono hB) (by simp; omega) (h.grow hga) h3⟩
end Go.Proofs.YtejpcoghkgjanaaGreatDoor

/- codec.table. -/
namespace Go.Proofs.YtejpcoghkgjanaaGreatDoor
open Go.RowKit Go.Gl Go.Wal

def tabCells : Array Value := #[.int .u32 0, .int .u32 274646895, .int .u32 549293790, .int .u32 820201905, .int .u32 1098587580, .int .u32 1361435347, .int .u32 1640403810, .int .u32 1905808397, .int .u32 2197175160, .int .u32 2460548119, .int .u32 2722870694, .int .u32 2987750089, .int .u32 3280807620, .int .u32 3553878443, .int .u32 3811616794, .int .u32 4084100981]

set_option maxRecDepth 100000 in
set_option maxHeartbeats 8000000 in
theorem table_any (w : World) : Calls Tryz.prog 91 #[] w fun e w' => e = .returned (.agg tabCells) ∧ Grow w w' := by
  go_enter Tryz.func91, Tryz.ntmps91
  go_wp2_with fail
  refine wp_loop_rounds 17 ?_
  iterate 16 (rw [rounds_succ]; go_wp2_with fail; refine wp_loop_rounds 5 ?_; iterate 5 (rw [rounds_succ]; go_wp2_with fail))
  rw [rounds_succ]
  go_wp2
  refine bodyPost_ret (v := .agg tabCells) ?_ rfl ⟨rfl, by (repeat (first | exact Below.refl _ _ | assumption | refine Below.drew ?_ | refine bDrewN ?_ | refine Below.setCell ?_ (by first | omega | (simp <;> omega)) _ | refine Below.alloc ?_ (by first | omega | (simp <;> omega)) _))⟩
  simp [results, Tryz.results91, go_sem]
  kernel_rfl
end Go.Proofs.YtejpcoghkgjanaaGreatDoor

/- codec.Sum. -/
namespace Go.Proofs.YtejpcoghkgjanaaGreatDoor
open Go.RowKit Go.Gl Go.Wal

theorem crcHalf_lt {c : Nat} (h : c < 4294967296) : crcHalf crcTab c < 4294967296 := by
  unfold crcHalf
  refine Nat.xor_lt_two_pow (n := 32) (by omega) ?_
  have h15 : c &&& 15 < 16 := Nat.lt_of_le_of_lt Nat.and_le_right (by decide)
  generalize c &&& 15 = d at *
  have : ∀ d, d < 16 → crcTab.getD d 0 < 2 ^ 32 := by decide
  exact this d h15
theorem crcByte_lt {c : Nat} (h : c < 4294967296) (b : UInt8) : crcByte crcTab c b < 4294967296 := by
  unfold crcByte
  exact crcHalf_lt (crcHalf_lt (Nat.xor_lt_two_pow (n := 32) h (by have := b.toNat_lt; omega)))
theorem crcAll_lt (l : List UInt8) : crcAll crcTab l < 4294967296 := by
  unfold crcAll
  have : ∀ (l : List UInt8) (c : Nat), c < 4294967296 → l.foldl (crcByte crcTab) c < 4294967296 := by
    intro l
    induction l with
    | nil => intro c h; exact h
    | cons x l ih => intro c h; exact ih _ (crcByte_lt h x)
  exact this l _ (by decide)
theorem crcAll_snoc {l : List UInt8} {i : Nat} {k : UInt8} (h : l[i]? = some k) : crcAll crcTab (l.take (i + 1)) = crcByte crcTab (crcAll crcTab (l.take i)) k := by
  unfold crcAll
  obtain ⟨hi, rfl⟩ := List.getElem?_eq_some_iff.1 h
  rw [List.take_succ_eq_append_getElem hi, List.foldl_append]
  rfl

def SumIn (w : World) (l : List UInt8) (cv iv : Value) (wr : World) : Prop := ∃ i : Nat, iv = .int .i64 i ∧ i ≤ l.length ∧ cv = .int .u32 ((crcAll crcTab (l.take i) : Nat) : Int) ∧ wr = w

set_option maxRecDepth 100000 in
set_option maxHeartbeats 4000000 in
theorem sum_any {w : World} {b : Nat} {pv : Value} {l : List UInt8} (hb : w.heap[b]? = some (.cells #[pv] 69 (0, 0))) (h : Bv w pv l) :
    Calls Tryz.prog 58 #[.slice (some ⟨b, 0, none⟩) 1 1] w fun e w' => e = .returned (.int .u32 ((sumD crcTab l : Nat) : Int)) ∧ Grow w w' := by
  go_enter Tryz.func58, Tryz.ntmps58
  go_wp2_with fail
  (with_reducible refine (table_any _).mono ?_)
  rintro e w1 ⟨rfl, hg1⟩
  have hb1 := hg1.heap hb
  have h1 := h.grow hg1
  unfold tabCells
  go_wp2_with fail
  have hga : Grow w1 (w1.alloc (.cells #[.int .u32 0, .int .u32 274646895, .int .u32 549293790, .int .u32 820201905, .int .u32 1098587580, .int .u32 1361435347, .int .u32 1640403810, .int .u32 1905808397, .int .u32 2197175160, .int .u32 2460548119, .int .u32 2722870694, .int .u32 2987750089, .int .u32 3280807620, .int .u32 3553878443, .int .u32 3811616794, .int .u32 4084100981] 141)) := Grow.alloc _ _
  have hnew : (w1.alloc (.cells #[.int .u32 0, .int .u32 274646895, .int .u32 549293790, .int .u32 820201905, .int .u32 1098587580, .int .u32 1361435347, .int .u32 1640403810, .int .u32 1905808397, .int .u32 2197175160, .int .u32 2460548119, .int .u32 2722870694, .int .u32 2987750089, .int .u32 3280807620, .int .u32 3553878443, .int .u32 3811616794, .int .u32 4084100981] 141)).heap[w1.heap.size]? = some (.cells #[.int .u32 0, .int .u32 274646895, .int .u32 549293790, .int .u32 820201905, .int .u32 1098587580, .int .u32 1361435347, .int .u32 1640403810, .int .u32 1905808397, .int .u32 2197175160, .int .u32 2460548119, .int .u32 2722870694, .int .u32 2987750089, .int .u32 3280807620, .int .u32 3553878443, .int .u32 3811616794, .int .u32 4084100981] 141 (0, 0)) := heap_alloc_new _ _
  have hT : ∀ d, d < 16 → (w1.alloc (.cells #[.int .u32 0, .int .u32 274646895, .int .u32 549293790, .int .u32 820201905, .int .u32 1098587580, .int .u32 1361435347, .int .u32 1640403810, .int .u32 1905808397, .int .u32 2197175160, .int .u32 2460548119, .int .u32 2722870694, .int .u32 2987750089, .int .u32 3280807620, .int .u32 3553878443, .int .u32 3811616794, .int .u32 4084100981] 141)).cell? ⟨w1.heap.size, d, none⟩ = some (.int .u32 ((crcTab.getD d 0 : Nat) : Int)) := fun d hd => by
    simp only [World.cell?, hnew]
    match d, hd with
    | 0, _ => rfl
    | 1, _ => rfl
    | 2, _ => rfl
    | 3, _ => rfl
    | 4, _ => rfl
    | 5, _ => rfl
    | 6, _ => rfl
    | 7, _ => rfl
    | 8, _ => rfl
    | 9, _ => rfl
    | 10, _ => rfl
    | 11, _ => rfl
    | 12, _ => rfl
    | 13, _ => rfl
    | 14, _ => rfl
    | 15, _ => rfl
    | d + 16, h => exact absurd h (by omega)
  have hb2 := hga.heap hb1
  have h2 := h1.grow hga
  have Hg2 := Lib.hid (hg1.trans hga)
  have lt2 := lt_of_getElem? hnew
  generalize w1.alloc (.cells #[.int .u32 0, .int .u32 274646895, .int .u32 549293790, .int .u32 820201905, .int .u32 1098587580, .int .u32 1361435347, .int .u32 1640403810, .int .u32 1905808397, .int .u32 2197175160, .int .u32 2460548119, .int .u32 2722870694, .int .u32 2987750089, .int .u32 3280807620, .int .u32 3553878443, .int .u32 3811616794, .int .u32 4084100981] 141) = w2 at *
  generalize w1.heap.size = tb at *
  have hb0 : w2.cell? ⟨b, 0, none⟩ = some pv := by simp [World.cell?, hb2]
  have lb := lt_of_getElem? hb2
  obtain ⟨pa, pc, rfl, hl, hm, hn, hp⟩ := h2
  have Hp := Lib.hid hp
  have HT := Lib.hid hT
  clear hb hp h hb1 h1 hnew hT hga hg1 hb2
  refine wp_loop_rounds 2 ?_
  rw [rounds_succ]
  go_wp2_with fail
  go_loopw [4, 18] (fun cv iv wr => SumIn w2 l cv iv wr) (fun _ iv _ => l.length - (intOf iv).toNat)
  case atStart => exact ⟨0, rfl, Nat.zero_le _, rfl, rfl⟩
  case round =>
    obtain ⟨i, rfl, hi, rfl, hwr⟩ := hrel
    have hwr' := hwr.symm
    subst hwr'
    clear hwr
    by_cases hlt : i < l.length
    · obtain ⟨k, hk⟩ : ∃ k, l[i]? = some k := ⟨l[i], by simp [hlt]⟩
      obtain ⟨p, o, rfl, lp, hc⟩ : ∃ b o, pa = some ⟨b, o, none⟩ ∧ b < w2.heap.size ∧ ∀ (j : Nat) (k : UInt8), l[j]? = some k → w2.cell? ⟨b, o + j, none⟩ = some (.int .u8 k.toNat) := by
        rcases Hp.out with h1 | h1
        · rw [h1] at hlt; simp at hlt
        · exact h1
      have ck := hc i k hk
      have hstep := crcAll_snoc hk
      have hclt := crcAll_lt (l.take i)
      have hk256 := k.toNat_lt
      generalize crcAll crcTab (l.take i) = c at *
      have hi1 : (i : Int) < (l.length : Int) := by omega
      have hi0 : (0 : Int) ≤ (i : Int) := by omega
      have hwi : IntKind.i64.wrap ((i : Int) + 1) = (i : Int) + 1 := IntWalk.i64_in _ (by unfold maxLen at hm; omega)
      have x1 : bits .xor .u32 (c : Int) (k.toNat : Int) = ((c ^^^ k.toNat : Nat) : Int) := u32_xor_nat c k.toNat hclt (by omega)
      have hc1 : c ^^^ k.toNat < 4294967296 := Nat.xor_lt_two_pow (n := 32) hclt (by omega)
      unfold crcByte at hstep
      generalize c ^^^ k.toNat = c1 at *
      have x2 : bits .and .u32 (c1 : Int) 15 = ((c1 &&& 15 : Nat) : Int) := u32_and_nat c1 15 hc1 (by decide)
      have hd1 : c1 &&& 15 < 16 := Nat.lt_of_le_of_lt Nat.and_le_right (by decide)
      have ct1 := HT.out _ hd1
      have hT1 : crcTab.getD (c1 &&& 15) 0 < 4294967296 := by
        have : ∀ d, d < 16 → crcTab.getD d 0 < 2 ^ 32 := by decide
        exact this _ hd1
      have x3 : bits .xor .u32 ((c1 : Int) / 16) ((crcTab.getD (c1 &&& 15) 0 : Nat) : Int) = ((crcHalf crcTab c1 : Nat) : Int) := by
        have := u32_xor_nat (c1 / 16) (crcTab.getD (c1 &&& 15) 0) (by omega) hT1
        rw [show ((c1 / 16 : Nat) : Int) = (c1 : Int) / 16 by simp] at this
        exact this
      have hc2 := crcHalf_lt hc1
      generalize crcHalf crcTab c1 = c2 at *
      generalize hdd1 : c1 &&& 15 = d1 at *
      have x4 : bits .and .u32 (c2 : Int) 15 = ((c2 &&& 15 : Nat) : Int) := u32_and_nat c2 15 hc2 (by decide)
      have hd2 : c2 &&& 15 < 16 := Nat.lt_of_le_of_lt Nat.and_le_right (by decide)
      have ct2 := HT.out _ hd2
      have hT2 : crcTab.getD (c2 &&& 15) 0 < 4294967296 := by
        have : ∀ d, d < 16 → crcTab.getD d 0 < 2 ^ 32 := by decide
        exact this _ hd2
      have x5 : bits .xor .u32 ((c2 : Int) / 16) ((crcTab.getD (c2 &&& 15) 0 : Nat) : Int) = ((crcHalf crcTab c2 : Nat) : Int) := by
        have := u32_xor_nat (c2 / 16) (crcTab.getD (c2 &&& 15) 0) (by omega) hT2
        rw [show ((c2 / 16 : Nat) : Int) = (c2 : Int) / 16 by simp] at this
        exact this
      generalize crcHalf crcTab c2 = c3 at *
      generalize hdd2 : c2 &&& 15 = d2 at *
      generalize crcTab.getD d1 0 = T1 at *
      generalize crcTab.getD d2 0 = T2 at *
      have d1a : (d1 : Int) < 16 := by omega
      have d2a : (d2 : Int) < 16 := by omega
      have d1b : (0 : Int) ≤ (d1 : Int) := by omega
      have d2b : (0 : Int) ≤ (d2 : Int) := by omega
      have Hstep := Lib.hid hstep
      clear hstep hc hk hdd1 hdd2 hT1 hT2
      go_wp2
      go_roundw
      case rel => exact ⟨i + 1, rfl, hlt, by rw [Hstep.out], rfl⟩
      case measure => simp [intOf]; omega
    · obtain rfl : i = l.length := by omega
      go_wp2_with fail
      rw [rounds_succ]
      have hlt' := crcAll_lt l
      go_wp2
      go_ret
      have x : bits .xor .u32 4294967295 ((crcAll crcTab l : Nat) : Int) = ((sumD crcTab l : Nat) : Int) := u32_xor_nat 4294967295 (crcAll crcTab l) (by decide) hlt'
      refine ⟨?_, Hg2.out⟩
      rw [← x]
      rfl

theorem sumD_lt (l : List UInt8) : sumD crcTab l < 4294967296 := Nat.xor_lt_two_pow (n := 32) (by decide) (crcAll_lt l)
end Go.Proofs.YtejpcoghkgjanaaGreatDoor

/- codec.Number onto nothing, codec.low. -/
namespace Go.Proofs.YtejpcoghkgjanaaGreatDoor
open Go.RowKit Go.Gl Go.Wal

theorem or128 (m : Nat) : bits .or .u8 ((m : Int) % 256) 128 = (((UInt8.ofNat (m % 128 + 128)).toNat : Nat) : Int) := by
  have h1 : ((m : Int) % 256) = ((m % 256 : Nat) : Int) := by omega
  have h2 : bits .or .u8 ((m % 256 : Nat) : Int) 128 = ((m % 256 ||| 128 : Nat) : Int) := u8_or_nat (m % 256) 128 (by omega) (by decide)
  rw [h1, h2, UInt8.toNat_ofNat_of_lt' (by simp [UInt8.size]; omega)]
  congr 1
  have : ∀ x : Nat, x < 256 → x ||| 128 = x % 128 + 128 := by decide +kernel
  rw [this _ (by omega)]
  omega

theorem clip_nil (w : World) : Calls Tryz.prog 90 #[.slice none 0 0] w fun e w' => e = .returned (.slice none 0 0) ∧ w' = w := by
  go_enter Tryz.func90, Tryz.ntmps90
  go_wp2
  go_ret
  exact ⟨rfl, rfl⟩

def NumInv (w : World) (n : Nat) (bv vv : Value) (wr : World) : Prop :=
  ∃ (pre : List UInt8) (m k : Nat), vv = .int .u64 m ∧ OwnB w.heap.size wr bv pre ∧ m < 128 ^ (k + 1) ∧ pre.length + (k + 1) = 10 ∧ numD n = pre ++ numF (k + 1) m ∧ m < 18446744073709551616 ∧ Grow w wr

set_option maxRecDepth 100000 in
set_option maxHeartbeats 4000000 in
theorem number_nil (w : World) (n : Nat) (hn : n < 18446744073709551616) :
    Calls Tryz.prog 57 #[.slice none 0 0, .int .u64 n] w fun e w' => ∃ v, e = .returned v ∧ OwnB w.heap.size w' v (numD n) ∧ Grow w w' := by
  go_enter Tryz.func57, Tryz.ntmps57
  go_wp2_with fail
  (with_reducible refine (clip_nil _).mono ?_)
  rintro e w1 ⟨rfl, hw1⟩
  have hw2 := hw1.symm
  subst hw2
  clear hw1
  go_wp2_with fail
  go_loopw [0, 1] (fun bv vv wr => NumInv w n bv vv wr) (fun _ vv _ => (intOf vv).toNat)
  case atStart => exact ⟨[], n, 9, rfl, row1_nil _ _ _, by omega, rfl, rfl, hn, Grow.refl _⟩
  case round =>
    obtain ⟨pre, m, k, rfl, hown, hm, hk, hnum, hm64, hg⟩ := hrel
    obtain ⟨ba, bc, rfl⟩ := hown.slice
    by_cases hlt : 128 ≤ m
    · have hge : decide ((128 : Int) ≤ (m : Int)) = true := by simp; omega
      have hk1 : 0 < k := by
        rcases Nat.eq_zero_or_pos k with rfl | h1
        · simp at hm; omega
        · exact h1
      obtain ⟨k', rfl⟩ : ∃ k', k = k' + 1 := ⟨k - 1, by omega⟩
      obtain ⟨v', w', h1, h2, h3⟩ := append_byte hown (UInt8.ofNat (m % 128 + 128)) (or128 m) hg.size (by omega)
      have Hrun := Lib.hid h1
      have hrel : NumInv w n v' (.int .u64 ((m : Int) / 128)) w' := by
        refine ⟨pre ++ [UInt8.ofNat (m % 128 + 128)], m / 128, k', by simp, h2, ?_, by simp; omega, ?_, by omega, Below.trans hg h3⟩
        · rw [Nat.pow_succ] at hm; exact Nat.div_lt_of_lt_mul (by rw [Nat.mul_comm]; exact hm)
        · rw [hnum, numF, if_neg (by omega)]; simp
      have Hrel := Lib.hid hrel
      clear h1 h2 h3 hrel hown hnum hm hk hg
      go_wp2_with (at_builtin; refine wpList_append rfl rfl rfl rfl Hrun.out ?_)
      go_roundw
      case rel => exact Hrel.out
      case measure => simp [intOf]; omega
    · have hge : decide ((128 : Int) ≤ (m : Int)) = false := by simp; omega
      have hx : (m : Int) = (((UInt8.ofNat m).toNat : Nat) : Int) := by rw [UInt8.toNat_ofNat_of_lt' (by simp [UInt8.size]; omega)]
      obtain ⟨v', w', h1, h2, h3⟩ := append_byte hown (UInt8.ofNat m) hx hg.size (by omega)
      have Hrun := Lib.hid h1
      have hpost : OwnB w.heap.size w' v' (numD n) := by
        rw [hnum, numF, if_pos (by omega)]; exact h2
      have Hpost := Lib.hid hpost
      have Hg := Lib.hid (Below.trans hg h3)
      clear h1 h2 h3 hown hnum hm hk hg hpost hx
      go_wp2_with (at_builtin; refine wpList_append rfl rfl rfl rfl Hrun.out ?_)
      go_ret
      exact ⟨_, rfl, Hpost.out, Hg.out⟩

def LowInv (w : World) (B : Nat) (l : List UInt8) (v0 : Nat) (bv vv iv : Value) (wr : World) : Prop :=
  ∃ (i v : Nat), iv = .int .i64 i ∧ i ≤ 4 ∧ vv = .int .u64 v ∧ v < 4294967296 ∧ (∃ pre, OwnB B wr bv (l ++ pre) ∧ pre.length = i ∧ lowD 4 v0 = pre ++ lowD (4 - i) v) ∧ Below B w wr ∧ B ≤ wr.heap.size

set_option maxRecDepth 100000 in
set_option maxHeartbeats 4000000 in
theorem low_any {w : World} {B : Nat} {bv : Value} {l : List UInt8} (h : OwnB B w bv l) (hB : B ≤ w.heap.size) (hl : l.length ≤ 1000000000000) (v0 : Nat) (hv : v0 < 4294967296) :
    Calls Tryz.prog 56 #[bv, .int .u64 v0, .int .i64 4] w fun e w' => ∃ v, e = .returned v ∧ OwnB B w' v (l ++ lowD 4 v0) ∧ Below B w w' := by
  have hst : LowInv w B l v0 bv (.int .u64 v0) (.int .i64 0) w := ⟨0, v0, rfl, by omega, rfl, hv, ⟨[], by simpa using h, rfl, rfl⟩, Below.refl _ _, hB⟩
  have Hst := Lib.hid hst
  clear hst h
  go_enter Tryz.func56, Tryz.ntmps56
  go_wp2_with fail
  go_loopw [0, 1, 8] (fun bv vv iv wr => LowInv w B l v0 bv vv iv wr) (fun _ _ iv _ => 4 - (intOf iv).toNat)
  case atStart => exact Hst.out
  case round =>
    obtain ⟨i, v, rfl, hi, rfl, hvlt, ⟨pre, hown, hpl, hlow⟩, hg, hBr⟩ := hrel
    by_cases hlt : i < 4
    · have hi1 : decide ((i : Int) < 4) = true := by simp; omega
      have hwi : IntKind.i64.wrap ((i : Int) + 1) = (i : Int) + 1 := IntWalk.i64_in _ (by omega)
      have hx : ((v : Int) % 256) = (((UInt8.ofNat (v % 256)).toNat : Nat) : Int) := by rw [UInt8.toNat_ofNat_of_lt' (by simp [UInt8.size]; omega)]; omega
      obtain ⟨v', w', h1, h2, h3⟩ := append_byte hown (UInt8.ofNat (v % 256)) hx hBr (by simp; omega)
      have Hrun := Lib.hid h1
      have hrel : LowInv w B l v0 v' (.int .u64 ((v : Int) / 256)) (.int .i64 ((i : Int) + 1)) w' := by
        refine ⟨i + 1, v / 256, by simp, hlt, by simp, by omega, ⟨pre ++ [UInt8.ofNat (v % 256)], by rw [← List.append_assoc]; exact h2, by simp; omega, ?_⟩, Below.trans hg h3, Nat.le_trans hBr h3.size⟩
        rw [hlow, show 4 - i = (4 - (i + 1)) + 1 by omega, lowD]; simp
      have Hrel := Lib.hid hrel
      obtain ⟨ba, bc, rfl⟩ := hown.slice
      clear h1 h2 h3 hrel hown hlow hpl hg hx
      go_wp2_with (at_builtin; refine wpList_append rfl rfl rfl rfl Hrun.out ?_)
      go_roundw
      case rel => exact Hrel.out
      case measure => simp [intOf]; omega
    · obtain rfl : i = 4 := by omega
      have hpre : lowD 4 v0 = pre := by rw [hlow]; simp [lowD]
      have hpost := hown
      rw [← hpre] at hpost
      have Hpost := Lib.hid hpost
      obtain ⟨ba, bc, rfl⟩ := hown.slice
      clear hpost hown hlow hpre
      go_wp2
      go_ret
      exact ⟨_, rfl, Hpost.out, hg⟩
end Go.Proofs.YtejpcoghkgjanaaGreatDoor

/- codec.Frame, codec.Frames. -/
namespace Go.Proofs.YtejpcoghkgjanaaGreatDoor
open Go.RowKit Go.Gl Go.Wal

theorem Bv.slice {w : World} {v : Value} {l : List UInt8} (h : Bv w v l) : ∃ a c, v = .slice a l.length c := by
  obtain ⟨a, c, h, _⟩ := h; exact ⟨a, c, h⟩

set_option maxRecDepth 100000 in
set_option maxHeartbeats 4000000 in
theorem frame_any {w : World} {pv : Value} {p : List UInt8} (h : Bv w pv p) (hp : p.length ≤ 67108864) :
    Calls Tryz.prog 25 #[pv] w fun e w' => ∃ v, e = .returned v ∧ OwnB w.heap.size w' v (frameD crcTab p) ∧ Grow w w' := by
  have hnum := number_nil w p.length (by omega)
  obtain ⟨pa, pc, rfl⟩ := h.slice
  have H := Lib.hid h
  have Hnum := Lib.hid hnum
  clear h hnum
  go_enter Tryz.func25, Tryz.ntmps25
  go_wp2_with fail
  (with_reducible refine Hnum.out.mono ?_)
  rintro e w1 ⟨nv, rfl, hn1, hg1⟩
  have hga : Grow w1 (w1.alloc (.cells #[.slice pa p.length pc] 69)) := Grow.alloc _ _
  have hsum := sum_any (heap_alloc_new w1 (.cells #[.slice pa p.length pc] 69)) ((H.out.grow hg1).grow hga)
  have Hsum := Lib.hid hsum
  obtain ⟨na, nc, rfl⟩ := hn1.slice
  clear hsum
  go_wp2_with fail
  (with_reducible refine Hsum.out.mono ?_)
  rintro e w2 ⟨rfl, hg2⟩
  have hlow := low_any ((hn1.grow hga).grow hg2) (by have := hg1.size; have := hga.size; have := hg2.size; omega) (by have := numF_len 10 p.length; unfold numD; omega) (sumD crcTab p) (sumD_lt p)
  have Hlow := Lib.hid hlow
  have hwr : IntKind.u64.wrap ((sumD crcTab p : Nat) : Int) = ((sumD crcTab p : Nat) : Int) := by have := sumD_lt p; simp [IntKind.wrap, IntKind.bits, IntKind.signed]; omega
  have Hg := Lib.hid ((hg1.trans hga).trans hg2)
  clear hlow hga hg2 Hsum hn1 hg1 Hnum
  go_wp2_with fail
  (with_reducible refine Hlow.out.mono ?_)
  rintro e w3 ⟨lv, rfl, ho3, hb3⟩
  have hg3 : Grow w w3 := Below.trans Hg.out hb3
  obtain ⟨v', w', h1, h2, h3, _⟩ := append_bytes ho3 (H.out.grow hg3) hg3.size (by have := numF_len 10 p.length; simp [lowD_len]; unfold numD; omega)
  have Hrun := Lib.hid h1
  have hpost : OwnB w.heap.size w' v' (frameD crcTab p) := by unfold frameD; rw [← List.append_assoc]; exact h2
  have Hpost := Lib.hid hpost
  have Hgr := Lib.hid (below_grown hg3 hg3.size ho3 h3)
  obtain ⟨la, lc, rfl⟩ := ho3.slice
  clear h1 h2 h3 hpost ho3 hb3 hg3
  go_wp2_with (at_builtin; refine wpList_append rfl rfl rfl rfl Hrun.out ?_)
  go_ret
  exact ⟨_, rfl, Hpost.out, Hgr.out⟩

/-- The value reads as a row of payloads. -/
def Rv (w : World) (v : Value) (ps : List (List UInt8)) : Prop :=
  ∃ a c, v = .slice a ps.length c ∧ (ps = [] ∨ ∃ b o, a = some ⟨b, o, none⟩ ∧ b < w.heap.size ∧ ∀ (j : Nat) (p : List UInt8), ps[j]? = some p → ∃ pv, w.cell? ⟨b, o + j, none⟩ = some pv ∧ Bv w pv p)

theorem Rv.grow {w w' : World} {v : Value} {ps : List (List UInt8)} (h : Rv w v ps) (hg : Grow w w') : Rv w' v ps := by
  obtain ⟨a, c, hv, h⟩ := h
  refine ⟨a, c, hv, ?_⟩
  rcases h with h | ⟨b, o, ha, hb, hc⟩
  · exact .inl h
  · refine .inr ⟨b, o, ha, Nat.lt_of_lt_of_le hb hg.size, fun j p hp => ?_⟩
    obtain ⟨pv, h1, h2⟩ := hc j p hp
    exact ⟨pv, by rw [Grow.cells _ _ _ hg hb]; exact h1, h2.grow hg⟩

theorem framesD_snoc {ps : List (List UInt8)} {i : Nat} {p : List UInt8} (h : ps[i]? = some p) : framesD crcTab (ps.take (i + 1)) = framesD crcTab (ps.take i) ++ frameD crcTab p := by
  obtain ⟨hi, rfl⟩ := List.getElem?_eq_some_iff.1 h
  unfold framesD
  rw [List.take_succ_eq_append_getElem hi, List.flatMap_append, List.flatMap_singleton]

def FrInv (w : World) (ps : List (List UInt8)) (bv iv : Value) (wr : World) : Prop :=
  ∃ i : Nat, iv = .int .i64 i ∧ i ≤ ps.length ∧ OwnB w.heap.size wr bv (framesD crcTab (ps.take i)) ∧ Grow w wr

end Go.Proofs.YtejpcoghkgjanaaGreatDoor

/- codec.ReadNumber. -/
namespace Go.Proofs.YtejpcoghkgjanaaGreatDoor
open Go.RowKit Go.Gl Go.Wal

def RnInv (w : World) (l : List UInt8) (vv iv : Value) (wr : World) : Prop :=
  ∃ i v : Nat, iv = .int .i64 i ∧ i ≤ l.length ∧ vv = .int .u64 v ∧ v < 128 ^ i ∧ i ≤ 9 ∧ rnD l = rnF i v (l.drop i) ∧ wr = w

theorem rn_step {l : List UInt8} {i v : Nat} {c : UInt8} (h : l[i]? = some c) : rnF i v (l.drop i) =
    if i = 9 ∧ 1 < c.toNat then (0, 0, 12) else
    if c.toNat < 128 then (if c.toNat = 0 ∧ 0 < i then (0, 0, 12) else (v + c.toNat * 128 ^ i, i + 1, 0)) else
    rnF (i + 1) (v + (c.toNat - 128) * 128 ^ i) (l.drop (i + 1)) := by
  obtain ⟨hi, rfl⟩ := List.getElem?_eq_some_iff.1 h
  rw [List.drop_eq_getElem_cons hi, rnF]

theorem pow128 (i : Nat) : 128 ^ i = 2 ^ (7 * i) := by
  rw [Nat.pow_mul]

theorem or_join {v x i : Nat} (hi : i ≤ 9) (hv : v < 128 ^ i) (hfit : x * 128 ^ i < 18446744073709551616) : bits .or .u64 (v : Int) ((x * 128 ^ i : Nat) : Int) = ((v + x * 128 ^ i : Nat) : Int) := by
  have hle : 128 ^ i ≤ 128 ^ 9 := Nat.pow_le_pow_right (by decide) hi
  rw [u64_or_nat v (x * 128 ^ i) (by omega) hfit]
  congr 1
  rw [Nat.or_comm, Nat.add_comm v, pow128]
  rw [pow128] at hv
  exact nat_join (7 * i) (x * 2 ^ (7 * i)) v (Nat.mul_mod_left _ _) hv

theorem or_shape {v k i : Nat} (hi : i ≤ 9) (hv : v < 128 ^ i) (hfit : k % 128 * 128 ^ i < 18446744073709551616) : bits .or .u64 (v : Int) (IntKind.u64.wrap ((k : Int) % 128 * 2 ^ (7 * i))) = ((v + k % 128 * 128 ^ i : Nat) : Int) := by
  have e : (k : Int) % 128 * 2 ^ (7 * i) = ((k % 128 * 128 ^ i : Nat) : Int) := by rw [pow128]; simp
  have hw : IntKind.u64.wrap ((k % 128 * 128 ^ i : Nat) : Int) = ((k % 128 * 128 ^ i : Nat) : Int) := by
    generalize k % 128 * 128 ^ i = z at *
    simp [IntKind.wrap, IntKind.bits, IntKind.signed]; omega
  rw [e, hw]
  exact or_join hi hv hfit

set_option maxRecDepth 100000 in
set_option maxHeartbeats 4000000 in
theorem readNumber_any {w : World} {bv : Value} {l : List UInt8} (h : Bv w bv l) :
    Calls Tryz.prog 94 #[bv] w fun e w' => e = .returned (.tuple #[.int .u64 ((rnD l).1 : Nat), .int .i64 ((rnD l).2.1 : Nat), .int .i64 ((rnD l).2.2 : Nat)]) ∧ w' = w := by
  obtain ⟨ba, bc, rfl, hlc, hm, hn, h⟩ := h
  have H := Lib.hid h
  clear h
  go_enter Tryz.func94, Tryz.ntmps94
  go_wp2_with fail
  go_loopw [5, 10] (fun vv iv wr => RnInv w l vv iv wr) (fun _ iv _ => l.length - (intOf iv).toNat)
  case atStart => exact ⟨0, 0, rfl, Nat.zero_le _, rfl, by decide, by decide, rfl, rfl⟩
  case round =>
    obtain ⟨i, v, rfl, hi, rfl, hv, hi9, hrn, hwr⟩ := hrel
    have hwr' := hwr.symm
    subst hwr'
    clear hwr
    by_cases hlt : i < l.length
    · obtain ⟨c, hc⟩ : ∃ c, l[i]? = some c := ⟨l[i], by simp [hlt]⟩
      obtain ⟨b, o, rfl, lb, hcs⟩ : ∃ b o, ba = some ⟨b, o, none⟩ ∧ b < w.heap.size ∧ ∀ (j : Nat) (k : UInt8), l[j]? = some k → w.cell? ⟨b, o + j, none⟩ = some (.int .u8 k.toNat) := by
        rcases H.out with h1 | h1
        · rw [h1] at hlt; simp at hlt
        · exact h1
      have ck := hcs i c hc
      rw [rn_step hc] at hrn
      have hc256 := c.toNat_lt
      have hi1 : (i : Int) < (l.length : Int) := by omega
      have hi0 : (0 : Int) ≤ (i : Int) := by omega
      have hwi : IntKind.i64.wrap ((i : Int) + 1) = (i : Int) + 1 := IntWalk.i64_in _ (by omega)
      have hw7 : IntKind.i64.wrap (7 * (i : Int)) = 7 * (i : Int) := IntWalk.i64_in _ (by omega)
      generalize c.toNat = k at *
      have x1 : bits .and .u8 (k : Int) 127 = ((k % 128 : Nat) : Int) := by
        have := u8_and_nat k 127 (by omega) (by decide)
        rw [show (k &&& 127) = k % 128 from Nat.and_two_pow_sub_one_eq_mod k 7] at this
        exact this
      have Hrn := Lib.hid hrn
      clear hrn hc hcs
      by_cases h9 : i = 9 ∧ 1 < k
      · have e9 : ((i : Int) == 9) = true := by simp; omega
        have e1 : decide ((1 : Int) < (k : Int)) = true := by simp; omega
        have Hres : Hid (rnD l = (0, 0, 12)) := Lib.hid (by rw [Hrn.out, if_pos h9])
        clear h9
        go_wp2
        go_ret3
        rw [Hres.out]
        exact ⟨rfl, rfl⟩
      · have e9 : ((i : Int) == 9) = true → decide ((1 : Int) < (k : Int)) = false := by simp; omega
        have hx : k % 128 * 128 ^ i < 18446744073709551616 := by
          by_cases hi8 : i ≤ 8
          · have h1 : 128 ^ i ≤ 128 ^ 8 := Nat.pow_le_pow_right (by decide) hi8
            have h2 : k % 128 * 128 ^ i ≤ 127 * 128 ^ 8 := Nat.mul_le_mul (by omega) h1
            omega
          · obtain rfl : i = 9 := by omega
            have : k % 128 ≤ 1 := by omega
            have h2 : k % 128 * 128 ^ 9 ≤ 1 * 128 ^ 9 := Nat.mul_le_mul_right _ this
            omega
        have x2 := or_shape hi9 hv hx
        have X2 := Lib.hid x2
        clear x2
        rw [if_neg h9] at Hrn
        by_cases h128 : k < 128
        · rw [if_pos h128] at Hrn
          have hmod : k % 128 = k := Nat.mod_eq_of_lt h128
          rw [hmod] at X2
          have e128 : decide ((k : Int) < 128) = true := by simp; omega
          by_cases hz : k = 0 ∧ 0 < i
          · have Hres : Hid (rnD l = (0, 0, 12)) := Lib.hid (by rw [Hrn.out, if_pos hz])
            have ez : ((k : Int) == 0) = true := by simp; omega
            have ei : decide (0 < i) = true := by simp; omega
            have ei2 : 0 < i := hz.2
            clear hz hmod
            cases e91 : ((i : Int) == 9) with
            | true =>
              have e1 := e9 e91
              go_wp2
              go_ret3
              rw [Hres.out]
              exact ⟨rfl, rfl⟩
            | false =>
              go_wp2
              go_ret3
              rw [Hres.out]
              exact ⟨rfl, rfl⟩
          · have Hres : Hid (rnD l = (v + k * 128 ^ i, i + 1, 0)) := Lib.hid (by rw [Hrn.out, if_neg hz])
            clear hmod
            by_cases hk0 : k = 0
            · have ei : decide (0 < i) = false := by simp; omega
              have ei2 : ¬ 0 < i := by omega
              have ez : ((k : Int) == 0) = true := by simp; omega
              clear hk0
              cases e91 : ((i : Int) == 9) with
              | true =>
                have e1 := e9 e91
                go_wp2
                refine bodyPost_ret (v := .tuple #[.int .u64 ((rnD l).1 : Nat), .int .i64 ((rnD l).2.1 : Nat), .int .i64 ((rnD l).2.2 : Nat)]) ?_ rfl ⟨rfl, rfl⟩
                rw [Hres.out]
                simp only [← X2.out]
                simp [results, Tryz.results94, go_sem]
              | false =>
                go_wp2
                refine bodyPost_ret (v := .tuple #[.int .u64 ((rnD l).1 : Nat), .int .i64 ((rnD l).2.1 : Nat), .int .i64 ((rnD l).2.2 : Nat)]) ?_ rfl ⟨rfl, rfl⟩
                rw [Hres.out]
                simp only [← X2.out]
                simp [results, Tryz.results94, go_sem]
            · skip
              have ez : ((k : Int) == 0) = false := by simp; omega
              cases e91 : ((i : Int) == 9) with
              | true =>
                have e1 := e9 e91
                go_wp2
                refine bodyPost_ret (v := .tuple #[.int .u64 ((rnD l).1 : Nat), .int .i64 ((rnD l).2.1 : Nat), .int .i64 ((rnD l).2.2 : Nat)]) ?_ rfl ⟨rfl, rfl⟩
                rw [Hres.out]
                simp only [← X2.out]
                simp [results, Tryz.results94, go_sem]
              | false =>
                go_wp2
                refine bodyPost_ret (v := .tuple #[.int .u64 ((rnD l).1 : Nat), .int .i64 ((rnD l).2.1 : Nat), .int .i64 ((rnD l).2.2 : Nat)]) ?_ rfl ⟨rfl, rfl⟩
                rw [Hres.out]
                simp only [← X2.out]
                simp [results, Tryz.results94, go_sem]
        · have hi8 : i ≤ 8 := by omega
          have e91 : ((i : Int) == 9) = false := by simp; omega
          have e128 : decide ((k : Int) < 128) = false := by simp; omega
          have Hmod : Hid (k % 128 = k - 128) := Lib.hid (by omega)
          rw [if_neg h128] at Hrn
          go_wp2
          go_roundw
          case rel =>
            rw [X2.out]
            refine ⟨i + 1, _, by simp, hlt, rfl, ?_, by omega, by rw [Hrn.out, Hmod.out], rfl⟩
            have h1 : k % 128 * 128 ^ i ≤ 127 * 128 ^ i := Nat.mul_le_mul_right _ (by omega)
            rw [Nat.pow_succ]
            omega
          case measure => simp [intOf]; omega
    · obtain rfl : i = l.length := by omega
      have Hres : Hid (rnD l = (0, 0, 11)) := Lib.hid (by rw [hrn, List.drop_length]; rfl)
      clear hrn
      go_wp2
      go_ret3
      rw [Hres.out]
      exact ⟨rfl, rfl⟩
end Go.Proofs.YtejpcoghkgjanaaGreatDoor

/- slices.Equal, slices.Clone at bytes; slices of slices. -/
namespace Go.Proofs.YtejpcoghkgjanaaGreatDoor
open Go.RowKit Go.Gl Go.Wal

def EqInv (w : World) (l1 l2 : List UInt8) (iv : Value) (wr : World) : Prop := ∃ i : Nat, iv = .int .i64 i ∧ i ≤ l1.length ∧ l1.take i = l2.take i ∧ Grow w wr

set_option maxRecDepth 100000 in
set_option maxHeartbeats 4000000 in
theorem equal_any {w : World} {v1 v2 : Value} {l1 l2 : List UInt8} (h1 : Bv w v1 l1) (h2 : Bv w v2 l2) :
    Calls Tryz.prog 95 #[v1, v2] w fun e w' => e = .returned (.bool (decide (l1 = l2))) ∧ Grow w w' := by
  obtain ⟨a1, c1, rfl, hl1, hm1, hn1, h1⟩ := h1
  obtain ⟨a2, c2, rfl, hl2, hm2, hn2, h2⟩ := h2
  have H1 := Lib.hid h1
  have H2 := Lib.hid h2
  have hcl := Grow.cells (w := w)
  clear h1 h2 hn1 hn2
  by_cases hlen : l1.length = l2.length
  · have hne : ((l1.length : Int) != (l2.length : Int)) = false := by simp; omega
    go_enter Tryz.func95, Tryz.ntmps95
    go_wp2
    go_loopw [13] (fun iv wr => EqInv w l1 l2 iv wr) (fun iv _ => l1.length - (intOf iv).toNat)
    case atStart => exact ⟨0, rfl, Nat.zero_le _, rfl, Grow.refl _⟩
    case round =>
      obtain ⟨i, rfl, hi, heq, hg⟩ := hrel
      by_cases hlt : i < l1.length
      · obtain ⟨x, hx⟩ : ∃ x, l1[i]? = some x := ⟨l1[i], by simp [hlt]⟩
        obtain ⟨y, hy⟩ : ∃ y, l2[i]? = some y := ⟨l2[i]'(by omega), by simp [show i < l2.length by omega]⟩
        obtain ⟨b1, o1, rfl, lb1, hc1⟩ : ∃ b o, a1 = some ⟨b, o, none⟩ ∧ b < w.heap.size ∧ ∀ (j : Nat) (k : UInt8), l1[j]? = some k → w.cell? ⟨b, o + j, none⟩ = some (.int .u8 k.toNat) := by
          rcases H1.out with h1 | h1
          · rw [h1] at hlt; simp at hlt
          · exact h1
        obtain ⟨b2, o2, rfl, lb2, hc2⟩ : ∃ b o, a2 = some ⟨b, o, none⟩ ∧ b < w.heap.size ∧ ∀ (j : Nat) (k : UInt8), l2[j]? = some k → w.cell? ⟨b, o + j, none⟩ = some (.int .u8 k.toNat) := by
          rcases H2.out with h1 | h1
          · rw [hlen, h1] at hlt; simp at hlt
          · exact h1
        have p1 := hc1 i x hx
        have p2 := hc2 i y hy
        have hi1 : (i : Int) < (l1.length : Int) := by omega
        have hi2 : (i : Int) < (l2.length : Int) := by omega
        have hi0 : (0 : Int) ≤ (i : Int) := by omega
        have hwi : IntKind.i64.wrap ((i : Int) + 1) = (i : Int) + 1 := IntWalk.i64_in _ (by unfold maxLen at hm1; omega)
        have Hg := Lib.hid hg
        by_cases hxy : x = y
        · have hrel : EqInv w l1 l2 (.int .i64 ((i : Int) + 1)) wr.drew := by
            refine ⟨i + 1, by simp, hlt, ?_, hg.trans (Grow.drew _)⟩
            obtain ⟨q1, q2⟩ := List.getElem?_eq_some_iff.1 hx
            obtain ⟨q3, q4⟩ := List.getElem?_eq_some_iff.1 hy
            rw [List.take_succ_eq_append_getElem q1, List.take_succ_eq_append_getElem q3, heq, q2, q4, hxy]
          have Hrel := Lib.hid hrel
          have e1 : ((x.toNat : Int) != (y.toNat : Int)) = false := by rw [hxy]; simp
          clear hrel hc1 hc2 hx hy heq hg hxy
          go_wp2_with fail
          refine wp_region_pi (fun W => Below w.heap.size w W) [(0, false), (1, false), (2, false), (3, false), (4, false), (5, false), (6, false), (7, false), (8, false)] (by kernel_rfl) (by kernel_rfl) (fun c a d v w h => by cases d <;> exact h) (Hg.out.trans (Grow.drew _)) ?_
          simp only [arrange, nth]
          repeat (first | (refine wpPi_quiet (v := ?_) (by rfl) (fun W hW => ?_) ?_; rotate_left; (obtain hW := hW; go_simp; with_reducible rfl); simp only [Act.put, List.setIfInBounds_toArray, List.set_cons_zero, List.set_cons_succ]) | (refine wpPi_off (by rfl) ?_; simp only [Act.put, List.setIfInBounds_toArray, List.set_cons_zero, List.set_cons_succ]))
          refine wpPi_nil ?_
          go_wp2
          go_roundw
          case rel => exact Hrel.out
          case measure => simp [intOf]; omega
        · have e1 : ((x.toNat : Int) != (y.toNat : Int)) = true := by
            simp only [bne_iff_ne, ne_eq]
            intro hc
            exact hxy (UInt8.toNat_inj.1 (by omega))
          have Hres : Hid (decide (l1 = l2) = false) := Lib.hid (by
            simp only [decide_eq_false_iff_not]
            intro hc
            rw [hc, hy] at hx
            exact hxy (Option.some.inj hx).symm)
          clear hc1 hc2 hx hy heq hg hxy
          go_wp2_with fail
          refine wp_region_pi (fun W => Below w.heap.size w W) [(0, false), (1, false), (2, false), (3, false), (4, false), (5, false), (6, false), (7, false), (8, false)] (by kernel_rfl) (by kernel_rfl) (fun c a d v w h => by cases d <;> exact h) (Hg.out.trans (Grow.drew _)) ?_
          simp only [arrange, nth]
          repeat (first | (refine wpPi_quiet (v := ?_) (by rfl) (fun W hW => ?_) ?_; rotate_left; (obtain hW := hW; go_simp; with_reducible rfl); simp only [Act.put, List.setIfInBounds_toArray, List.set_cons_zero, List.set_cons_succ]) | (refine wpPi_off (by rfl) ?_; simp only [Act.put, List.setIfInBounds_toArray, List.set_cons_zero, List.set_cons_succ]))
          refine wpPi_nil ?_
          go_wp2
          go_ret
          rw [Hres.out]
          exact ⟨rfl, Hg.out.trans (Grow.drew _)⟩
      · obtain rfl : i = l1.length := by omega
        have Hres : Hid (decide (l1 = l2) = true) := Lib.hid (by
          rw [List.take_length] at heq
          rw [hlen, List.take_length] at heq
          simp [heq])
        clear heq
        go_wp2
        go_ret
        rw [Hres.out]
        exact ⟨rfl, hg⟩
  · have hne : ((l1.length : Int) != (l2.length : Int)) = true := by simp; omega
    have Hres : Hid (decide (l1 = l2) = false) := Lib.hid (by
      simp only [decide_eq_false_iff_not]
      intro hc
      exact hlen (by rw [hc]))
    clear hlen
    go_enter Tryz.func95, Tryz.ntmps95
    go_wp2
    go_ret
    rw [Hres.out]
    exact ⟨rfl, Grow.refl _⟩

set_option maxHeartbeats 400000 in
theorem clone_any {w : World} {v : Value} {l : List UInt8} (h : Bv w v l) (hmax : l.length ≤ 140737488355328) :
    Calls Tryz.prog 63 #[v] w fun e w' => ∃ v', e = .returned v' ∧ OwnB w.heap.size w' v' l ∧ Grow w w' := by
  have hga : Grow w (w.alloc (.cells #[] 5)) := Grow.alloc _ _
  have hrow : OwnB w.heap.size (w.alloc (.cells #[] 5)) (.slice (some ⟨w.heap.size, 0, none⟩) 0 0) [] := .inr ⟨w.heap.size, 0, #[], rfl, Nat.le_refl _, heap_alloc_new _ _, Nat.le_refl _, Nat.le_refl _, Nat.zero_le _, rfl⟩
  obtain ⟨v', w', h1, h2, h3, _⟩ := append_bytes hrow (h.grow hga) (by simp) (by simpa using hmax)
  have hgr : Grow w w' := below_grown hga (by simp) hrow h3
  have Hrun := Lib.hid h1
  have Hpost := Lib.hid h2
  have Hgr := Lib.hid hgr
  obtain ⟨a, c, rfl, _, _, hn, _⟩ := h
  have h0 := @Lib.run_eql_slice_nil Tryz.prog
  cases a with
  | none =>
    have hc := hn rfl
    have : l = [] := by
      rename_i hlc _ _
      exact List.eq_nil_of_length_eq_zero (by omega)
    subst this
    subst hc
    clear h1 h2 h3 hgr hrow hga
    go_enter Tryz.func63, Tryz.ntmps63
    go_wp2
    go_ret
    exact ⟨_, rfl, row1_nil _ _ _, Grow.refl _⟩
  | some a =>
    clear h1 h2 h3 hgr hrow hga hn
    go_enter Tryz.func63, Tryz.ntmps63
    go_wp2_with (at_builtin; refine wpList_append rfl rfl rfl rfl Hrun.out ?_)
    go_ret
    exact ⟨_, rfl, Hpost.out, Hgr.out⟩
end Go.Proofs.YtejpcoghkgjanaaGreatDoor
