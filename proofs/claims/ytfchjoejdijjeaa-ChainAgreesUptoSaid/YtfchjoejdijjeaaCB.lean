/- Merged out of Ga, P1, A0: helpers. -/
import Derived.Test.YtfchjoejdijjeaaCA
import Derived.Test.YtfchjoejdijjeaaRows
import Derived.Deep.QuietTactic
import Derived.BigQuiet
import Derived.Lib.Hide
import Derived.Laws.Cover1
import Derived.Laws.BitsAllLaws
import Derived.Laws.ShiftsVarLaws
set_option linter.unusedSimpArgs false
set_option linter.unusedVariables false
/- Rows of elements of one cell, whose room may be less than their block's; append on them. Over any program. -/
namespace Go.Gl
open Go Go.RowKit

/-- The value is a row of its own, of elements of type e, that reads as xs; its block is at B or above. -/
def Row1 (e : TypeId) (B : Nat) (w : World) (v : Value) (xs : List Value) : Prop :=
  (v = .slice none 0 0 ∧ xs = []) ∨ ∃ (g cap : Nat) (cur : Array Value), v = .slice (some ⟨g, 0, none⟩) xs.length cap ∧ B ≤ g ∧ w.heap[g]? = some (.cells cur e (0, 0)) ∧ xs.length ≤ cap ∧ cap ≤ cur.size ∧ cap ≤ maxLen ∧ cur.toList.take xs.length = xs

theorem row1_nil (e : TypeId) (B : Nat) (w : World) : Row1 e B w (.slice none 0 0) [] := .inl ⟨rfl, rfl⟩

theorem Row1.slice {e : TypeId} {B : Nat} {w : World} {v : Value} {xs : List Value} (h : Row1 e B w v xs) : ∃ a c, v = .slice a xs.length c := by
  rcases h with ⟨rfl, rfl⟩ | ⟨g, cap, cur, rfl, _⟩
  · exact ⟨_, _, rfl⟩
  · exact ⟨_, _, rfl⟩

theorem Row1.keep {e : TypeId} {B : Nat} {w w' : World} {v : Value} {xs : List Value} (h : Row1 e B w v xs) (hk : ∀ g, v.ownBlock = some g → w'.heap[g]? = w.heap[g]?) : Row1 e B w' v xs := by
  rcases h with h | ⟨g, cap, cur, rfl, hB, hg, hr⟩
  · exact .inl h
  · exact .inr ⟨g, cap, cur, rfl, hB, by rw [hk g rfl]; exact hg, hr⟩
theorem Row1.lt {e : TypeId} {B : Nat} {w : World} {v : Value} {xs : List Value} (h : Row1 e B w v xs) {g : Nat} (hg : v.ownBlock = some g) : B ≤ g ∧ g < w.heap.size := by
  rcases h with ⟨rfl, _⟩ | ⟨g', cap, cur, rfl, hB, hb, _⟩
  · cases hg
  · cases hg; exact ⟨hB, lt_of_getElem? hb⟩
theorem Row1.grow {e : TypeId} {B : Nat} {w w' : World} {v : Value} {xs : List Value} (h : Row1 e B w v xs) (hg : Grow w w') : Row1 e B w' v xs :=
  h.keep fun g hgg => hg.block g (h.lt hgg).2
theorem Row1.mono {e : TypeId} {B B' : Nat} {w : World} {v : Value} {xs : List Value} (h : Row1 e B w v xs) (hB : B' ≤ B) : Row1 e B' w v xs := by
  rcases h with h | ⟨g, cap, cur, hv, hb, hr⟩
  · exact .inl h
  · exact .inr ⟨g, cap, cur, hv, by omega, hr⟩
theorem Row1.block {e : TypeId} {B : Nat} {w : World} {v : Value} {xs : List Value} (h : Row1 e B w v xs) {g : Nat} (hg : v.ownBlock = some g) : ∃ cur, w.heap[g]? = some (.cells cur e (0, 0)) := by
  rcases h with ⟨rfl, _⟩ | ⟨g', cap, cur, rfl, hB, hb, _⟩
  · cases hg
  · cases hg; exact ⟨cur, hb⟩
theorem Row1.apart {e t : TypeId} {B : Nat} {w : World} {v : Value} {xs : List Value} (h : Row1 e B w v xs) {b : Nat} {arr : Array Value} {f : Nat × Nat} (hb : w.heap[b]? = some (.cells arr t f)) (ht : t ≠ e) : v.ownBlock ≠ some b := by
  intro hc
  obtain ⟨cur, hg⟩ := h.block hc
  rw [hg] at hb; cases hb; exact ht rfl
theorem Row1.cells {e : TypeId} {B : Nat} {w : World} {v : Value} {xs : List Value} (h : Row1 e B w v xs) {g : Nat} (hg : v.ownBlock = some g) {j : Nat} {u : Value} (hj : xs[j]? = some u) : w.cell? ⟨g, j, none⟩ = some u := by
  rcases h with ⟨rfl, _⟩ | ⟨g', cap, cur, rfl, hB, hb, _, _, _, ht⟩
  · cases hg
  · cases hg
    rw [← ht, List.getElem?_take] at hj
    split at hj
    · have h2 : cur[j]? = some u := by simpa using hj
      simp [World.cell?, hb, h2]
    · cases hj
theorem Row1.frozen {e : TypeId} {B : Nat} {w : World} {v : Value} {xs : List Value} (h : Row1 e B w v xs) {g : Nat} (hg : v.ownBlock = some g) (j : Nat) : w.frozen? ⟨g, j, none⟩ = false := by
  obtain ⟨cur, hb⟩ := h.block hg
  simp [World.frozen?, hb]

theorem setCell_heap {w : World} {b : Nat} {cur : Array Value} {t : TypeId} {f : Nat × Nat} (h : w.heap[b]? = some (.cells cur t f)) (o : Nat) (v : Value) : (w.setCell ⟨b, o, none⟩ v).heap[b]? = some (.cells (cur.setIfInBounds o v) t f) := by
  simp only [World.setCell]
  rw [Array.getElem?_modify, h]
  simp
theorem grown_setCell (w : World) (b o : Nat) (v : Value) : w.grownBy (w.setCell ⟨b, o, none⟩ v) (some b) := ⟨rfl, rfl, rfl, by simp, fun k _ hk => Below.heap_setCell _ _ _ _ (fun e => hk (by rw [e]))⟩
theorem grown_trans {w1 w2 w3 : World} {r : Option Nat} (h : w1.grownBy w2 r) (k : w2.grownBy w3 r) : w1.grownBy w3 r :=
  ⟨k.os.trans h.os, k.tape.trans h.tape, k.output.trans h.output, Nat.le_trans h.size k.size, fun b hb hne => by rw [k.block b (Nat.lt_of_lt_of_le hb h.size) hne, h.block b hb hne]⟩

/-- Cells of one block are set. -/
theorem setCells_row {b : Nat} : ∀ (cs : List Value) (o : Nat) (w : World) (cur : Array Value) (t : TypeId) (f : Nat × Nat), w.heap[b]? = some (.cells cur t f) → o + cs.length ≤ cur.size →
    ∃ cur', (w.setCells b o cs).heap[b]? = some (.cells cur' t f) ∧ cur'.size = cur.size ∧ cur'.toList.take (o + cs.length) = cur.toList.take o ++ cs ∧ w.grownBy (w.setCells b o cs) (some b)
  | [], o, w, cur, t, f, h, _ => ⟨cur, h, rfl, by simp, ⟨rfl, rfl, rfl, Nat.le_refl _, fun _ _ _ => rfl⟩⟩
  | v :: cs, o, w, cur, t, f, h, hs => by
    have h1 := setCell_heap h o v
    simp only [List.length_cons] at hs
    obtain ⟨cur', e1, e2, e3, e4⟩ := setCells_row cs (o + 1) _ _ t f h1 (by rw [Array.size_setIfInBounds]; omega)
    refine ⟨cur', e1, by simpa using e2, ?_, grown_trans (grown_setCell w b o v) e4⟩
    rw [List.length_cons, show o + (cs.length + 1) = o + 1 + cs.length by omega, e3]
    have : (cur.setIfInBounds o v).toList.take (o + 1) = cur.toList.take o ++ [v] := by
      rw [Array.toList_setIfInBounds, List.take_succ_eq_append_getElem (by simp; omega), List.take_set_of_le (Nat.le_refl _)]
      simp
    rw [this]
    simp

section append
variable {P : Program} {w : World}

theorem run_append_row {t tx ty e : TypeId} {z : Value} {bytes B : Nat} (ht : P.underlying t = some (.slice e)) (hi : (P.info? e).map (fun i => (i.zero, i.size, i.bytes)) = some (some z, 1, bytes)) (hz1 : z.cells.size = 1)
    {v : Value} {xs : List Value} (h : Row1 e B w v xs) {x : Value} {n : Nat} {news : List Value} (hs : Src P 1 tx x n news w) (hB : B ≤ w.heap.size) (h63 : xs.length + n ≤ maxLen) (hby : (xs.length + n) * bytes ≤ 140737488355328) :
    ∃ v' w', (Builtin.append_ #[t, tx] ty #[v, x]).run P w = .ok v' w' ∧ Row1 e B w' v' (xs ++ news) ∧ w.grownBy w' v.ownBlock ∧ (v'.ownBlock = v.ownBlock ∨ v'.ownBlock = some w.heap.size) := by
  obtain ⟨i, hi0, hzz, hsz, hbb⟩ := info_parts hi
  have hn : news.length = n := by have := hs.newsLen; omega
  have hs' : Src P i.size tx x n news w := by rw [hsz]; exact hs
  have h63' : xs.length + n ≤ 9223372036854775807 := by unfold maxLen at h63; omega
  have grown : ∀ (old : Nat), old < xs.length + n →
      Row1 e B (w.drew.alloc (.cells ((xs ++ news).toArray ++ Builtin.zeroCells z.cells (grownCap w (xs.length + n) old e - (xs.length + n))) e)) (.slice (some ⟨w.heap.size, 0, none⟩) (xs.length + n) (grownCap w (xs.length + n) old e)) (xs ++ news) := by
    intro old _
    have hge := grownCap_ge w (xs.length + n) old e
    have hcm : grownCap w (xs.length + n) old e ≤ maxLen := grownCap_le_maxLen w (xs.length + n) old e h63
    refine .inr ⟨w.heap.size, _, _, by rw [List.length_append, hn], hB, heap_alloc_new w.drew _, by rw [List.length_append, hn]; exact hge, ?_, hcm, ?_⟩
    · simp only [Array.size_append, List.size_toArray, size_zeroCells, hz1, List.length_append, hn]; omega
    · simp only [Array.toList_append]
      exact List.take_left
  have grew : ∀ (o : Obj) (row : Option Nat), w.grownBy (w.drew.alloc o) row := fun o row => ⟨rfl, rfl, rfl, by simp, fun k hk _ => heap_alloc_old w.drew _ hk⟩
  rcases h with ⟨rfl, rfl⟩ | ⟨g, cap, cur, rfl, hBg, hg, hlc, hcc, hcm, htk⟩
  · by_cases hn0 : n = 0
    · subst hn0
      have : news = [] := List.eq_nil_of_length_eq_zero hn
      subst this
      refine ⟨.slice none 0 0, w, ?_, .inl ⟨rfl, rfl⟩, ⟨rfl, rfl, rfl, Nat.le_refl _, fun _ _ _ => rfl⟩, .inl rfl⟩
      have hc := hs'.cells
      have hl := hs'.len
      rcases hs.kind with ⟨e', hk⟩ | hk <;> simp [Builtin.append_, run_underlying ht, run_underlying hk, sizeOf, typeInfo, hi0, hl, hc]
    · have hold : (Builtin.firstCells i.size 0 (.slice none 0 0)).run P w.drew = .ok ([] : List Value).toArray w.drew := by simp [Builtin.firstCells]
      have hr := run_append_grow_src w t tx ty e i z ht hi0 hzz none 0 0 [] hold x n news hs' (by omega) (by simp at h63' ⊢; omega) (by rw [hbb]; exact growslice_fits (by omega) (by simpa using hby))
      have hg := grown 0 (by simp; omega)
      simp only [List.length_nil, Nat.zero_add, List.nil_append] at hr hg ⊢
      exact ⟨_, _, hr, hg, grew _ _, .inr rfl⟩
  · by_cases hroom : xs.length + n ≤ cap
    · have hr := run_append_room_src w t tx ty e i ht hi0 g 0 xs.length cap x n news hs' hroom
        (fun j hj => by rw [hsz, Nat.zero_add, Nat.mul_one]; simp only [World.cell?, hg]; simp; omega)
        (fun j hj => by simp [World.frozen?, hg])
      rw [hsz, Nat.zero_add, Nat.mul_one] at hr
      obtain ⟨cur', c1, c2, c3, c4⟩ := setCells_row news xs.length w cur e (0, 0) hg (by omega)
      refine ⟨_, _, hr, .inr ⟨g, cap, cur', by rw [List.length_append, hn], hBg, c1, by rw [List.length_append, hn]; exact hroom, by omega, hcm, ?_⟩, c4, .inl rfl⟩
      rw [List.length_append, c3, htk]
    · have hold : (Builtin.firstCells i.size xs.length (.slice (some ⟨g, 0, none⟩) xs.length cap)).run P w.drew = .ok xs.toArray w.drew := by
        refine run_firstCells_some w.drew i.size xs.length ⟨g, 0, none⟩ xs.length cap xs (by rw [hsz, Nat.mul_one]) (fun j u hu => ?_)
        have hrow : Row1 e B w (.slice (some ⟨g, 0, none⟩) xs.length cap) xs := .inr ⟨g, cap, cur, rfl, hBg, hg, hlc, hcc, hcm, htk⟩
        have := hrow.cells (g := g) rfl hu
        rw [Addr.add_lit, Nat.zero_add]
        exact this
      have hr := run_append_grow_src w t tx ty e i z ht hi0 hzz (some ⟨g, 0, none⟩) xs.length cap xs hold x n news hs' (by omega) (by omega) (by rw [hbb]; exact growslice_fits (by omega) hby)
      exact ⟨_, _, hr, grown cap (by omega), grew _ _, .inr rfl⟩

/-- A row that grew lies below no more than it did. -/
theorem below_grown {B : Nat} {w0 w1 w' : World} {v : Value} {e : TypeId} {xs : List Value} (hb : Below B w0 w1) (hB : B ≤ w1.heap.size) (h : Row1 e B w1 v xs) (hg : w1.grownBy w' v.ownBlock) : Below B w0 w' :=
  hb.grown hg hB (fun _ hk => (h.lt hk).1)
end append
end Go.Gl

/- Plain: numbers, sums, frames as lists of bytes; no program in sight. -/
namespace Go.Wal

/-- A number's bytes: seven bits each, the lowest first. -/
def numF : Nat → Nat → List UInt8
  | 0, _ => []
  | k + 1, n => if n < 128 then [UInt8.ofNat n] else UInt8.ofNat (n % 128 + 128) :: numF k (n / 128)
def numD (n : Nat) : List UInt8 := numF 10 n

/-- Reads a number: what it is, how many bytes it has, the error's number. -/
def rnF : Nat → Nat → List UInt8 → Nat × Nat × Nat
  | _, _, [] => (0, 0, 11)
  | i, v, c :: r =>
    if i = 9 ∧ 1 < c.toNat then (0, 0, 12) else
    if c.toNat < 128 then (if c.toNat = 0 ∧ 0 < i then (0, 0, 12) else (v + c.toNat * 128 ^ i, i + 1, 0)) else
    rnF (i + 1) (v + (c.toNat - 128) * 128 ^ i) r
def rnD (b : List UInt8) : Nat × Nat × Nat := rnF 0 0 b

/-- The remainders of half a byte. -/
def crcTab : List Nat := [0, 274646895, 549293790, 820201905, 1098587580, 1361435347, 1640403810, 1905808397, 2197175160, 2460548119, 2722870694, 2987750089, 3280807620, 3553878443, 3811616794, 4084100981]

def crcHalf (T : List Nat) (c : Nat) : Nat := (c / 16) ^^^ (T.getD (c &&& 15) 0)
def crcByte (T : List Nat) (c : Nat) (b : UInt8) : Nat := crcHalf T (crcHalf T (c ^^^ b.toNat))
def crcAll (T : List Nat) (b : List UInt8) : Nat := b.foldl (crcByte T) 4294967295
def sumD (T : List Nat) (b : List UInt8) : Nat := 4294967295 ^^^ crcAll T b

def lowD : Nat → Nat → List UInt8
  | 0, _ => []
  | k + 1, v => UInt8.ofNat (v % 256) :: lowD k (v / 256)

def frameD (T : List Nat) (p : List UInt8) : List UInt8 := numD p.length ++ (lowD 4 (sumD T p) ++ p)

/-- Reads a frame: where its payload lies, the error's number. -/
def frD (T : List Nat) (b : List UInt8) : Nat × Nat × Nat :=
  if (rnD b).2.2 ≠ 0 then (0, 0, (rnD b).2.2) else
  if 67108864 < (rnD b).1 then (0, 0, 3) else
  if b.length < (rnD b).2.1 + ((rnD b).1 + 4) then (0, 0, 11) else
  if (b.drop (rnD b).2.1).take 4 ≠ lowD 4 (sumD T ((b.drop ((rnD b).2.1 + 4)).take (rnD b).1)) then (0, 0, 13) else
  ((rnD b).2.1 + 4, (rnD b).2.1 + 4 + (rnD b).1, 0)

/-- Reads frames: the payloads, how many bytes they take, the error's number. -/
def rfF (T : List Nat) : Nat → List UInt8 → List (List UInt8) × Nat × Nat
  | 0, _ => ([], 0, 0)
  | k + 1, b => if b = [] then ([], 0, 0) else
    if (frD T b).2.2 ≠ 0 then ([], 0, (frD T b).2.2) else
    ((b.drop (frD T b).1).take ((frD T b).2.1 - (frD T b).1) :: (rfF T k (b.drop (frD T b).2.1)).1, (frD T b).2.1 + (rfF T k (b.drop (frD T b).2.1)).2.1, (rfF T k (b.drop (frD T b).2.1)).2.2)
def rfD (T : List Nat) (b : List UInt8) : List (List UInt8) × Nat × Nat := rfF T (b.length + 1) b

theorem lowD_len : ∀ (k v : Nat), (lowD k v).length = k
  | 0, _ => rfl
  | k + 1, v => by simp [lowD, lowD_len k]

theorem numF_len : ∀ (k n : Nat), (numF k n).length ≤ k
  | 0, _ => by simp [numF]
  | k + 1, n => by
    unfold numF
    split
    · simp
    · have := numF_len k (n / 128); simp; omega
theorem numF_pos (k n : Nat) : 0 < (numF (k + 1) n).length := by
  unfold numF
  split <;> simp

/-- What is written is read. -/
theorem rn_num : ∀ (k n i v : Nat) (r : List UInt8), n < 128 ^ k → i + k ≤ 9 → 0 < k → (i = 0 ∨ 0 < n) →
    rnF i v (numF k n ++ r) = (v + n * 128 ^ i, i + (numF k n).length, 0)
  | 0, n, i, v, r, hn, hik, hk, _ => by omega
  | k + 1, n, i, v, r, hn, hik, hk, h0 => by
    unfold numF
    by_cases h : n < 128
    · rw [if_pos h]
      simp only [List.cons_append, List.nil_append, rnF]
      have e : (UInt8.ofNat n).toNat = n := by rw [UInt8.toNat_ofNat_of_lt' (by simp [UInt8.size]; omega)]
      rw [e, if_neg (by omega), if_pos h, if_neg (by omega)]
      simp
    · rw [if_neg h]
      have e : (UInt8.ofNat (n % 128 + 128)).toNat = n % 128 + 128 := by rw [UInt8.toNat_ofNat_of_lt' (by simp [UInt8.size]; omega)]
      simp only [List.cons_append, rnF]
      rw [e, if_neg (by omega), if_neg (by omega)]
      have hk1 : 0 < k := by
        rcases Nat.eq_zero_or_pos k with rfl | h1
        · simp at hn; omega
        · exact h1
      have hlt : n / 128 < 128 ^ k := by rw [Nat.pow_succ] at hn; exact Nat.div_lt_of_lt_mul (by rw [Nat.mul_comm]; exact hn)
      rw [rn_num k (n / 128) (i + 1) _ r hlt (by omega) hk1 (.inr (by omega))]
      refine Prod.ext ?_ (Prod.ext ?_ rfl)
      · show v + (n % 128 + 128 - 128) * 128 ^ i + n / 128 * 128 ^ (i + 1) = v + n * 128 ^ i
        rw [Nat.add_sub_cancel, Nat.pow_succ, Nat.add_assoc]
        congr 1
        have : n = n % 128 + 128 * (n / 128) := (Nat.mod_add_div n 128).symm
        conv => rhs; rw [this]
        rw [Nat.add_mul]
        congr 1
        rw [Nat.mul_comm (128 ^ i) 128, ← Nat.mul_assoc, Nat.mul_comm (n / 128) 128]
      · simp; omega

/-- A number that is cut cannot be read. -/
theorem rn_cut : ∀ (k n i v m : Nat), i + k ≤ 9 → m < (numF k n).length → (rnF i v ((numF k n).take m)) = (0, 0, 11)
  | 0, n, i, v, m, _, hm => by simp [numF] at hm
  | k + 1, n, i, v, m, hik, hm => by
    cases m with
    | zero => simp [rnF]
    | succ m =>
      unfold numF at hm ⊢
      by_cases h : n < 128
      · rw [if_pos h] at hm; simp at hm
      · rw [if_neg h] at hm ⊢
        have e : (UInt8.ofNat (n % 128 + 128)).toNat = n % 128 + 128 := by rw [UInt8.toNat_ofNat_of_lt' (by simp [UInt8.size]; omega)]
        simp only [List.take_succ_cons, rnF]
        rw [e, if_neg (by omega), if_neg (by omega)]
        simp only [List.length_cons] at hm
        exact rn_cut k (n / 128) (i + 1) _ m (by omega) (by omega)

theorem numF_more : ∀ (k n : Nat), n < 128 ^ k → 0 < k → numF (k + 1) n = numF k n
  | 0, _, _, h => by omega
  | k + 1, n, hn, _ => by
    conv => lhs; rw [numF]
    conv => rhs; rw [numF]
    by_cases h : n < 128
    · rw [if_pos h, if_pos h]
    · rw [if_neg h, if_neg h]
      have hlt : n / 128 < 128 ^ k := by rw [Nat.pow_succ] at hn; exact Nat.div_lt_of_lt_mul (by rw [Nat.mul_comm]; exact hn)
      have hk1 : 0 < k := by
        rcases Nat.eq_zero_or_pos k with rfl | h1
        · simp at hn; omega
        · exact h1
      rw [numF_more k (n / 128) hlt hk1]

theorem numD_eq {n : Nat} (h : n ≤ 67108864) : numD n = numF 9 n := numF_more 9 n (by omega) (by decide)

theorem rn_numD {n : Nat} (h : n ≤ 67108864) (r : List UInt8) : rnD (numD n ++ r) = (n, (numD n).length, 0) := by
  rw [numD_eq h]
  have := rn_num 9 n 0 0 r (by omega) (by decide) (by decide) (.inl rfl)
  unfold rnD
  rw [this]
  simp

theorem rn_numD_cut {n m : Nat} (h : n ≤ 67108864) (hm : m < (numD n).length) : rnD ((numD n).take m) = (0, 0, 11) := by
  rw [numD_eq h] at hm ⊢
  exact rn_cut 9 n 0 0 m (by decide) hm

theorem numD_pos (n : Nat) : 0 < (numD n).length := numF_pos 9 n

theorem frame_len (T : List Nat) (p : List UInt8) : (frameD T p).length = (numD p.length).length + (4 + p.length) := by
  simp [frameD, lowD_len]

/-- A frame is read. -/
theorem fr_frame (T : List Nat) {p : List UInt8} (h : p.length ≤ 67108864) (r : List UInt8) : frD T (frameD T p ++ r) = ((numD p.length).length + 4, (frameD T p).length, 0) := by
  have hrn : rnD (frameD T p ++ r) = (p.length, (numD p.length).length, 0) := by
    unfold frameD
    rw [List.append_assoc]
    exact rn_numD h _
  unfold frD
  rw [hrn]
  have hl := frame_len T p
  rw [if_neg (by simp), if_neg (by simp; omega), if_neg (by simp; omega)]
  have e1 : ((frameD T p ++ r).drop (numD p.length).length) = lowD 4 (sumD T p) ++ (p ++ r) := by
    unfold frameD; rw [List.append_assoc, List.drop_left, List.append_assoc]
  have e2 : ((frameD T p ++ r).drop ((numD p.length).length + 4)) = p ++ r := by
    rw [← List.drop_drop, e1]
    exact List.drop_left' (lowD_len 4 _)
  rw [if_neg ?_]
  · refine Prod.ext rfl (Prod.ext ?_ rfl)
    simp only
    rw [hl]; omega
  · simp only [e1, e2, ne_eq, Decidable.not_not]
    rw [List.take_left' (lowD_len 4 _), List.take_left]

/-- A frame that is cut is not read. -/
theorem fr_cut (T : List Nat) {p : List UInt8} (h : p.length ≤ 67108864) {m : Nat} (hm : m < (frameD T p).length) : frD T ((frameD T p).take m) = (0, 0, 11) := by
  have hl := frame_len T p
  by_cases h1 : m < (numD p.length).length
  · have : (frameD T p).take m = (numD p.length).take m := by
      unfold frameD
      rw [List.take_append_of_le_length (by omega)]
    rw [this]
    unfold frD
    rw [rn_numD_cut h h1]
    simp
  · have : (frameD T p).take m = numD p.length ++ (lowD 4 (sumD T p) ++ p).take (m - (numD p.length).length) := by
      unfold frameD
      rw [List.take_append, List.take_of_length_le (by omega)]
    have hrn : rnD ((frameD T p).take m) = (p.length, (numD p.length).length, 0) := by rw [this]; exact rn_numD h _
    have hlen : ((frameD T p).take m).length = m := by simp; omega
    unfold frD
    rw [hrn, hlen]
    rw [if_neg (by simp), if_neg (by simp; omega), if_pos (by simp; omega)]

/-- Frames behind one another. -/
def framesD (T : List Nat) (ps : List (List UInt8)) : List UInt8 := ps.flatMap (frameD T)

theorem frame_ne (T : List Nat) (p : List UInt8) : 0 < (frameD T p).length := by rw [frame_len]; omega

theorem rf_frames (T : List Nat) : ∀ (ps : List (List UInt8)) (k : Nat) (t : List UInt8), (∀ p ∈ ps, p.length ≤ 67108864) → (framesD T ps ++ t).length < k →
    rfF T k (framesD T ps ++ t) = (ps ++ (rfF T (k - ps.length) t).1, (framesD T ps).length + (rfF T (k - ps.length) t).2.1, (rfF T (k - ps.length) t).2.2)
  | [], k, t, _, _ => by simp [framesD]
  | p :: ps, 0, t, _, hk => by omega
  | p :: ps, k + 1, t, hp, hk => by
    have e : framesD T (p :: ps) ++ t = frameD T p ++ (framesD T ps ++ t) := by simp [framesD]
    have hl := frame_ne T p
    rw [e, rfF, if_neg (by intro h0; rw [h0] at e; have := congrArg List.length h0; simp at this; rw [this.1] at hl; simp at hl), fr_frame T (hp p (by simp))]
    rw [if_neg (by simp)]
    have hfl := frame_len T p
    have hlen : (framesD T ps ++ t).length < k := by
      have := congrArg List.length e
      simp only [List.length_append] at this hk ⊢
      omega
    have ih := rf_frames T ps k t (fun q hq => hp q (by simp [hq])) hlen
    simp only [List.drop_left]
    rw [ih]
    have e2 : (List.drop ((numD p.length).length + 4) (frameD T p ++ (framesD T ps ++ t))).take ((frameD T p).length - ((numD p.length).length + 4)) = p := by
      have e3 : (frameD T p ++ (framesD T ps ++ t)).drop ((numD p.length).length + 4) = p ++ (framesD T ps ++ t) := by
        unfold frameD
        rw [List.append_assoc, ← List.drop_drop, List.drop_left, List.append_assoc]
        exact List.drop_left' (lowD_len 4 _)
      rw [e3, hfl, show (numD p.length).length + (4 + p.length) - ((numD p.length).length + 4) = p.length by omega, List.take_left]
    rw [e2]
    have e4 : k + 1 - (p :: ps).length = k - ps.length := by simp
    rw [e4]
    refine Prod.ext (by simp) (Prod.ext ?_ rfl)
    simp only [framesD, List.flatMap_cons, List.length_append]
    omega

/-- Whole frames, and perhaps the front of one more. -/
theorem rf_torn (T : List Nat) (ps : List (List UInt8)) {p : List UInt8} {m : Nat} (hps : ∀ p ∈ ps, p.length ≤ 67108864) (hp : p.length ≤ 67108864) (hm : m < (frameD T p).length) :
    rfD T (framesD T ps ++ (frameD T p).take m) = (ps, (framesD T ps).length, if m = 0 then 0 else 11) := by
  unfold rfD
  rw [rf_frames T ps _ _ hps (Nat.lt_succ_self _)]
  have hpl : ps.length ≤ (framesD T ps).length := by
    clear hps
    induction ps with
    | nil => simp
    | cons q qs ih => have := frame_ne T q; simp only [framesD, List.flatMap_cons, List.length_append, List.length_cons] at ih ⊢; omega
  have hk : ∃ k, (framesD T ps ++ (frameD T p).take m).length + 1 - ps.length = k + 1 := ⟨(framesD T ps ++ (frameD T p).take m).length - ps.length, by simp only [List.length_append] at *; omega⟩
  obtain ⟨k, hk⟩ := hk
  rw [hk, rfF]
  by_cases h0 : m = 0
  · subst h0; simp
  · rw [if_neg (by intro h1; have := congrArg List.length h1; rw [List.length_take, List.length_nil] at this; omega), fr_cut T hp hm]
    simp [h0]

theorem rf_whole (T : List Nat) (ps : List (List UInt8)) (hps : ∀ p ∈ ps, p.length ≤ 67108864) : rfD T (framesD T ps) = (ps, (framesD T ps).length, 0) := by
  have := rf_torn T ps (p := []) (m := 0) hps (by simp) (frame_ne T [])
  simpa using this
end Go.Wal

/- Slices of bytes as lists; rows of bytes of one's own. -/
namespace Go.Proofs.Ytfchjoejdijjeaa
open Go.RowKit Go.Gl Go.Wal

/-- The value reads as the bytes l. -/
def Bv (w : World) (v : Value) (l : List UInt8) : Prop :=
  ∃ a c, v = .slice a l.length c ∧ l.length ≤ c ∧ c ≤ maxLen ∧ (a = none → c = 0) ∧ (l = [] ∨ ∃ b o, a = some ⟨b, o, none⟩ ∧ b < w.heap.size ∧ ∀ (j : Nat) (k : UInt8), l[j]? = some k → w.cell? ⟨b, o + j, none⟩ = some (.int .u8 k.toNat))

theorem Bv.grow {w w' : World} {v : Value} {l : List UInt8} (h : Bv w v l) (hg : Grow w w') : Bv w' v l := by
  obtain ⟨a, c, hv, hl, hm, hn, h⟩ := h
  refine ⟨a, c, hv, hl, hm, hn, ?_⟩
  rcases h with h | ⟨b, o, ha, hb, hc⟩
  · exact .inl h
  · refine .inr ⟨b, o, ha, Nat.lt_of_lt_of_le hb hg.size, fun j k hk => ?_⟩
    rw [Grow.cells _ _ _ hg hb]; exact hc j k hk

theorem Try.infoB : (Try.prog.info? 5).map (fun i => (i.zero, i.size, i.bytes)) = some (some (.int .u8 0), 1, 1) := by kernel_rfl
theorem Try.infoR : (Try.prog.info? 28).map (fun i => (i.zero, i.size, i.bytes)) = some (some (.slice none 0 0), 1, 24) := by kernel_rfl
theorem Try.infoI : (Try.prog.info? 3).map (fun i => (i.zero, i.size, i.bytes)) = some (some (.int .i64 0), 1, 8) := by kernel_rfl
theorem Try.infoStr : (Try.prog.info? 9).map (fun i => (i.zero, i.size, i.bytes)) = some (some (.string ByteArray.empty), 1, 16) := by kernel_rfl

/-- A row of bytes of one's own. -/
abbrev OwnB (B : Nat) (w : World) (v : Value) (l : List UInt8) : Prop := Row1 5 B w v (bcells l)

theorem bcells_len (l : List UInt8) : (bcells l).length = l.length := by simp [bcells]
theorem bcells_append (a b : List UInt8) : bcells (a ++ b) = bcells a ++ bcells b := by simp [bcells]
theorem bcells_one (l : List UInt8) : ∀ u ∈ bcells l, u.oneCell' = true := fun u hu => by
  obtain ⟨x, _, rfl⟩ := List.mem_map.1 hu
  rfl

theorem ownB_bv {B : Nat} {w : World} {v : Value} {l : List UInt8} (h : OwnB B w v l) : Bv w v l := by
  rcases h with ⟨rfl, h0⟩ | ⟨g, cap, cur, rfl, hB, hg, hn, hc, hm, ht⟩
  · have : l = [] := List.eq_nil_of_length_eq_zero (by rw [← bcells_len, h0]; rfl)
    subst this
    exact ⟨none, 0, rfl, Nat.le_refl _, Nat.zero_le _, fun _ => rfl, .inl rfl⟩
  · have hrow : OwnB B w (.slice (some ⟨g, 0, none⟩) (bcells l).length cap) l := .inr ⟨g, cap, cur, rfl, hB, hg, hn, hc, hm, ht⟩
    rw [bcells_len] at hn
    refine ⟨some ⟨g, 0, none⟩, cap, by rw [bcells_len], hn, hm, (fun h => by cases h), .inr ⟨g, 0, rfl, lt_of_getElem? hg, fun j k hk => ?_⟩⟩
    rw [Nat.zero_add]
    exact hrow.cells rfl (by simp [bcells, hk])

theorem Bv.src {w : World} {v : Value} {l : List UInt8} (h : Bv w v l) : Src Try.prog 1 28 v l.length (bcells l) w := by
  obtain ⟨a, c, rfl, hl, hm, hn, h⟩ := h
  cases a with
  | none =>
    have hc := hn rfl
    have : l = [] := List.eq_nil_of_length_eq_zero (by omega)
    subst this
    exact Src.ofNil w Try.underlying28 c
  | some a =>
    refine Src.ofSlice w Try.underlying28 a l.length c (bcells l) (by simp [bcells]) (fun j u hu => ?_) (bcells_one l)
    simp only [bcells, List.getElem?_map, Option.map_eq_some_iff] at hu
    obtain ⟨x, hx, rfl⟩ := hu
    rcases h with rfl | ⟨b, o, ha, hb, hc⟩
    · simp at hx
    · cases ha
      rw [Addr.add_lit]
      exact hc j x hx

/-- 'append(b, p...)'. -/
theorem append_bytes {B : Nat} {w : World} {v pv : Value} {l p : List UInt8} (h : OwnB B w v l) (hp : Bv w pv p) (hB : B ≤ w.heap.size) (hlen : l.length + p.length ≤ 140737488355328) :
    ∃ v' w', (Builtin.append_ #[28, 28] 28 #[v, pv]).run Try.prog w = .ok v' w' ∧ OwnB B w' v' (l ++ p) ∧ w.grownBy w' v.ownBlock ∧ (v'.ownBlock = v.ownBlock ∨ v'.ownBlock = some w.heap.size) := by
  obtain ⟨v', w', h1, h2, h3, h4⟩ := run_append_row (ty := 28) Try.underlying28 Try.infoB rfl h hp.src hB (by rw [bcells_len]; unfold maxLen; omega) (by rw [bcells_len]; omega)
  exact ⟨v', w', h1, by rw [OwnB, bcells_append]; exact h2, h3, h4⟩

/-- 'append(b, x)'. -/
theorem append_byte {B : Nat} {w : World} {v : Value} {l : List UInt8} (h : OwnB B w v l) (x : UInt8) {n : Int} (hx : n = (x.toNat : Int)) (hB : B ≤ w.heap.size) (hlen : l.length + 1 ≤ 140737488355328) :
    ∃ v' w', (Builtin.append_ #[28, 28] 28 #[v, .slice (some ⟨w.heap.size, 0, none⟩) 1 1]).run Try.prog (w.alloc (.cells #[.int .u8 n] 5)) = .ok v' w' ∧ OwnB B w' v' (l ++ [x]) ∧ Below B w w' := by
  subst hx
  have hb : Bv (w.alloc (.cells #[.int .u8 x.toNat] 5)) (.slice (some ⟨w.heap.size, 0, none⟩) 1 1) [x] := by
    refine ⟨some ⟨w.heap.size, 0, none⟩, 1, rfl, Nat.le_refl _, by decide, (fun h => by cases h), .inr ⟨w.heap.size, 0, rfl, by simp, fun j k hk => ?_⟩⟩
    match j, hk with
    | 0, hk =>
      cases hk
      simp only [World.cell?, heap_alloc_new]
      rfl
    | j + 1, hk => simp at hk
  have hga : Grow w (w.alloc (.cells #[.int .u8 x.toNat] 5)) := Grow.alloc _ _
  obtain ⟨v', w', h1, h2, h3, _⟩ := append_bytes (h.grow hga) hb (by simp; omega) (by simpa using hlen)
  exact ⟨v', w', h1, h2, below_grown (hga.mono hB) (by simp; omega) (h.grow hga) h3⟩
end Go.Proofs.Ytfchjoejdijjeaa
