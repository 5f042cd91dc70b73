/- Merged out of K3, KP, K4, K6: helpers. -/
import Derived.Test.YtejpcoghkgjanaaGreatDoorVG
import Derived.Test.YtejpcoghkgjanaaGreatDoorVH
import Derived.Test.YtejpcoghkgjanaaGreatDoorVI
/- Plain: an edit's bytes. -/
namespace Go.Proofs.YtejpcoghkgjanaaGreatDoor
open Go.RowKit Go.Gl Go.Wal Mn

/-- What is written is read, ten bytes too. -/
theorem rn_num10 : ∀ (k n i v : Nat) (r : List UInt8), n < 128 ^ k → i + k ≤ 10 → 0 < k → (i = 0 ∨ 0 < n) → n * 128 ^ i < 18446744073709551616 →
    rnF i v (numF k n ++ r) = (v + n * 128 ^ i, i + (numF k n).length, 0)
  | 0, n, i, v, r, hn, hik, hk, _, _ => by omega
  | k + 1, n, i, v, r, hn, hik, hk, h0, h64 => by
    unfold numF
    by_cases h : n < 128
    · rw [if_pos h]
      simp only [List.cons_append, List.nil_append, rnF]
      have e : (UInt8.ofNat n).toNat = n := by rw [UInt8.toNat_ofNat_of_lt' (by simp [UInt8.size]; omega)]
      have h9 : ¬ (i = 9 ∧ 1 < n) := by
        rintro ⟨rfl, h1⟩
        have : (128 : Nat) ^ 9 = 9223372036854775808 := by decide
        rw [this] at h64
        omega
      rw [e, if_neg h9, if_pos h, if_neg (by omega)]
      simp
    · rw [if_neg h]
      have e : (UInt8.ofNat (n % 128 + 128)).toNat = n % 128 + 128 := by rw [UInt8.toNat_ofNat_of_lt' (by simp [UInt8.size]; omega)]
      simp only [List.cons_append, rnF]
      have h9 : i ≠ 9 := by
        rintro rfl
        have : (128 : Nat) ^ 9 = 9223372036854775808 := by decide
        rw [this] at h64
        omega
      rw [e, if_neg (by omega), if_neg (by omega)]
      have hk1 : 0 < k := by
        rcases Nat.eq_zero_or_pos k with rfl | h1
        · simp at hn; omega
        · exact h1
      have hlt : n / 128 < 128 ^ k := by rw [Nat.pow_succ] at hn; exact Nat.div_lt_of_lt_mul (by rw [Nat.mul_comm]; exact hn)
      have h64' : n / 128 * 128 ^ (i + 1) < 18446744073709551616 := by
        refine Nat.lt_of_le_of_lt ?_ h64
        rw [Nat.pow_succ, Nat.mul_comm (128 ^ i) 128, ← Nat.mul_assoc]
        exact Nat.mul_le_mul_right _ (Nat.div_mul_le_self n 128)
      rw [rn_num10 k (n / 128) (i + 1) _ r hlt (by omega) hk1 (.inr (by omega)) h64']
      refine Prod.ext ?_ (Prod.ext ?_ rfl)
      · show v + (n % 128 + 128 - 128) * 128 ^ i + n / 128 * 128 ^ (i + 1) = v + n * 128 ^ i
        rw [Nat.add_sub_cancel, Nat.pow_succ, Nat.add_assoc]
        congr 1
        have : n = n % 128 + 128 * (n / 128) := (Nat.mod_add_div n 128).symm
        conv => rhs; rw [this]
        rw [Nat.add_mul]
        congr 1
        rw [Nat.mul_comm (128 ^ i) 128, ← Nat.mul_assoc, Nat.mul_comm (n / 128) 128]
      · simp; omega

theorem rn_any {n : Nat} (h : n < 18446744073709551616) (r : List UInt8) : rnD (numD n ++ r) = (n, (numD n).length, 0) := by
  have := rn_num10 10 n 0 0 r (Nat.lt_of_lt_of_le h (by decide)) (by decide) (by decide) (.inl rfl) (by simpa using h)
  unfold rnD numD
  rw [this]
  simp

theorem numD_len (n : Nat) : (numD n).length ≤ 10 := numF_len 10 n

def tabB (t : Tb) : List UInt8 := numD t.file.toNat ++ (numD t.level.toNat ++ (bytesD t.first.data.toList ++ (bytesD t.last.data.toList ++ numD t.size.toNat)))
def dropB (n : Int) : List UInt8 := numD n.toNat
/-- An edit's bytes. -/
def encD (e : EdD) : List UInt8 :=
  numD e.add.length ++ (e.add.flatMap tabB ++ (numD e.drop.length ++ (e.drop.flatMap dropB ++ (numD e.seq.toNat ++ (numD e.next.toNat ++ numD e.wal.toNat)))))

def Numb (n : Int) : Prop := 0 ≤ n ∧ n ≤ 1099511627776
structure TabFit (t : Tb) : Prop where
  file : Numb t.file
  level : Numb t.level
  first : t.first.size ≤ 67108864
  last : t.last.size ≤ 67108864
  size : Numb t.size
/-- An edit that can be written and read. -/
structure EdFit (e : EdD) : Prop where
  adds : ∀ t ∈ e.add, TabFit t
  alen : e.add.length ≤ 65536
  drops : ∀ n ∈ e.drop, Numb n
  dlen : e.drop.length ≤ 65536
  seq : 0 ≤ e.seq ∧ e.seq < 18446744073709551616
  next : Numb e.next
  wal : Numb e.wal

/-- How many bytes a table's keys have. -/
def keyN (l : List Tb) : Nat := (l.map fun t => t.first.size + t.last.size).sum

theorem tabB_len (t : Tb) : (tabB t).length ≤ 50 + (t.first.size + t.last.size) := by
  have h1 := numD_len t.file.toNat
  have h2 := numD_len t.level.toNat
  have h3 := numD_len t.first.data.toList.length
  have h4 := numD_len t.last.data.toList.length
  have h5 := numD_len t.size.toNat
  have e1 : t.first.data.toList.length = t.first.size := by rw [Array.length_toList]; rfl
  have e2 : t.last.data.toList.length = t.last.size := by rw [Array.length_toList]; rfl
  simp only [tabB, bytesD, List.length_append] at *
  omega

theorem tabsB_len : ∀ l : List Tb, (l.flatMap tabB).length ≤ 50 * l.length + keyN l
  | [] => by simp [keyN]
  | t :: l => by
    have h1 := tabB_len t
    have h2 := tabsB_len l
    simp only [List.flatMap_cons, List.length_append, List.length_cons, keyN, List.map_cons, List.sum_cons] at *
    omega

theorem dropsB_len : ∀ l : List Int, (l.flatMap dropB).length ≤ 10 * l.length
  | [] => by simp
  | n :: l => by
    have h1 := numD_len n.toNat
    have h2 := dropsB_len l
    simp only [List.flatMap_cons, List.length_append, List.length_cons, dropB] at *
    omega

theorem encD_len (e : EdD) : (encD e).length ≤ 50 + 50 * e.add.length + keyN e.add + 10 * e.drop.length := by
  have h1 := numD_len e.add.length
  have h2 := tabsB_len e.add
  have h3 := numD_len e.drop.length
  have h4 := dropsB_len e.drop
  have h5 := numD_len e.seq.toNat
  have h6 := numD_len e.next.toNat
  have h7 := numD_len e.wal.toNat
  simp only [encD, List.length_append] at *
  omega

theorem keyN_append (a b : List Tb) : keyN (a ++ b) = keyN a + keyN b := by simp [keyN]
theorem keyN_take (l : List Tb) (i : Nat) : keyN (l.take i) ≤ keyN l := by
  have h := keyN_append (l.take i) (l.drop i)
  rw [List.take_append_drop] at h
  omega
theorem keyN_filter (l : List Tb) (p : Tb → Bool) : keyN (l.filter p) ≤ keyN l := by
  induction l with
  | nil => exact Nat.le_refl _
  | cons t l ih =>
    have e : keyN (t :: l) = t.first.size + t.last.size + keyN l := by simp [keyN]
    rw [List.filter_cons]
    split
    · have e2 : keyN (t :: l.filter p) = t.first.size + t.last.size + keyN (l.filter p) := by simp [keyN]
      omega
    · omega
theorem keyN_perm {a b : List Tb} (h : a.Perm b) : keyN a = keyN b := (h.map _).sum_nat
theorem keyN_mem {l : List Tb} {t : Tb} (h : t ∈ l) : t.first.size + t.last.size ≤ keyN l := by
  induction l with
  | nil => cases h
  | cons u l ih =>
    have e : keyN (u :: l) = u.first.size + u.last.size + keyN l := by simp [keyN]
    rcases List.mem_cons.1 h with rfl | h
    · omega
    · have := ih h; omega
end Go.Proofs.YtejpcoghkgjanaaGreatDoor

/- Plain: the versions that edits make of the zero one; the edit that makes a version anew. -/
namespace Go.Proofs.YtejpcoghkgjanaaGreatDoor
open Go.RowKit Go.Gl Go.Wal Mn

structure TabOk (t : Tb) : Prop where
  file : Numb t.file
  level : 0 ≤ t.level ∧ t.level ≤ 6
  size : Numb t.size
  keys : (Op.bytesLess t.first.toList t.last.toList || t.first.toList == t.last.toList) = true

/-- A version that edits can make. -/
structure Good (V : VerD) : Prop where
  once : Once V.tabs
  strict : Strict V.tabs
  tabs : ∀ t ∈ V.tabs, TabOk t
  len : V.tabs.length ≤ 65536
  apart : sharedD V.tabs = false
  seq : 0 ≤ V.seq ∧ V.seq < 18446744073709551616
  next : Numb V.next
  wal : Numb V.wal

theorem numb_zero : Numb 0 := by unfold Numb; omega
theorem good_zero : Good verZero :=
  ⟨List.nodup_nil, List.Pairwise.nil, fun t h => by simp [verZero] at h, Nat.zero_le _, rfl, by decide, numb_zero, numb_zero⟩

def wholeD (V : VerD) : EdD := ⟨V.tabs, [], V.seq, V.next, V.wal⟩

theorem not_bad {l : List Tb} {t : Tb} (h : ¬ addBad l t = true) : TabOk t ∧ hasF l t.file = false := by
  have h' : addBad l t = false := by simpa using h
  unfold addBad at h'
  simp only [Bool.or_eq_false_iff, decide_eq_false_iff_not, Bool.not_eq_false'] at h'
  obtain ⟨h1, h2, h3, h4, h5, h6, h7, h8⟩ := h'
  exact ⟨⟨⟨by omega, by omega⟩, ⟨by omega, by omega⟩, ⟨by omega, by omega⟩, h5⟩, h2⟩

theorem bad_not {l : List Tb} {t : Tb} (h : TabOk t) (hf : hasF l t.file = false) : addBad l t = false := by
  unfold addBad
  obtain ⟨⟨h1, h2⟩, ⟨h3, h4⟩, ⟨h5, h6⟩, h7⟩ := h
  simp only [Bool.or_eq_false_iff, decide_eq_false_iff_not, Bool.not_eq_false']
  exact ⟨by omega, hf, by omega, by omega, h7, by omega, by omega, by omega⟩

theorem adds_parts : ∀ {r l l' : List Tb}, addsD l r = some l' → l' = l ++ r ∧ ∀ t ∈ r, TabOk t
  | [], l, l', h => by simp [addsD] at h; subst h; exact ⟨by simp, fun t h => by cases h⟩
  | t :: r, l, l', h => by
    unfold addsD at h
    split at h
    · cases h
    · rename_i hb
      obtain ⟨h1, h2⟩ := adds_parts h
      refine ⟨by rw [h1]; simp, fun u hu => ?_⟩
      rcases List.mem_cons.1 hu with rfl | hu
      · exact (not_bad hb).1
      · exact h2 u hu

theorem adds_all : ∀ {r l : List Tb}, (∀ t ∈ r, TabOk t) → Once (l ++ r) → addsD l r = some (l ++ r)
  | [], l, _, _ => by simp [addsD]
  | t :: r, l, h, ho => by
    have hf : hasF l t.file = false := by
      cases hh : hasF l t.file with
      | false => rfl
      | true =>
        obtain ⟨x, hx, hxe⟩ := List.any_eq_true.1 hh
        unfold Once at ho
        rw [List.map_append, List.map_cons] at ho
        have := (List.nodup_append.1 ho).2.2 _ (List.mem_map.2 ⟨x, hx, rfl⟩) t.file (List.mem_cons_self ..)
        exact absurd (by simpa using hxe) this
    have hb := bad_not (h t (List.mem_cons_self ..)) hf
    unfold addsD
    rw [if_neg (by rw [hb]; exact Bool.false_ne_true)]
    rw [adds_all (fun u hu => h u (List.mem_cons_of_mem _ hu)) (by simpa using ho)]
    simp

theorem ltT_irr (x : Tb) : ¬ ltT x x := by
  rintro (h | ⟨_, h | ⟨_, h⟩⟩)
  · omega
  · exact List.lt_irrefl _ h
  · omega

theorem strict_asymm {x y : Tb} (h : ltT x y) : ¬ ltT y x := fun h' => ltT_irr x (ltT_trans h h')

theorem sort_strict {l : List Tb} (h : Strict l) (ho : Once l) : sortD l = l := by
  refine List.Perm.eq_of_pairwise (le := fun x y => ¬ ltT y x) ?_ (sortD_sorted l) (h.imp fun hab => strict_asymm hab) (sortD_perm l)
  intro a b ha hb h1 h2
  have e := (ltT_tri a b h2 h1).2.2
  have ha' := (sortD_perm l).mem_iff.1 ha
  unfold Once at ho
  obtain ⟨i, hi⟩ := List.mem_iff_getElem?.1 ha'
  obtain ⟨j, hj⟩ := List.mem_iff_getElem?.1 hb
  have hij : i = j := nodup_idx ho (by rw [List.getElem?_map, hi]; rfl) (by rw [List.getElem?_map, hj]; simp [e])
  subst hij
  rw [hi] at hj
  cases hj; rfl

theorem or2_zero (x : Int) : or2 x 0 = x := by unfold or2; split <;> simp [*]

theorem keep_nil (l : List Tb) : l.filter (keepT []) = l := List.filter_eq_self.2 (fun _ _ => rfl)

/-- The edit that makes a version anew makes it. -/
theorem apply_whole {V : VerD} (h : Good V) : applyD verZero (wholeD V) = (0, V) := by
  obtain ⟨tabs, seq, next, wal⟩ := V
  unfold applyD
  have hd : dropsBad verZero.tabs [] (wholeD ⟨tabs, seq, next, wal⟩).drop = false := rfl
  rw [hd, if_neg Bool.false_ne_true]
  have ha : addsD (verZero.tabs.filter (keepT (wholeD ⟨tabs, seq, next, wal⟩).drop)) (wholeD ⟨tabs, seq, next, wal⟩).add = some tabs := by
    have := adds_all (l := []) h.tabs (by simpa using h.once)
    simpa [wholeD, verZero] using this
  rw [ha]
  have hs := sort_strict h.strict h.once
  have h1 := h.len
  have h2 := h.apart
  have hn : numsBad verZero (wholeD ⟨tabs, seq, next, wal⟩) = false := by
    obtain ⟨s1, s2⟩ := h.seq
    obtain ⟨n1, n2⟩ := h.next
    obtain ⟨w1, w2⟩ := h.wal
    simp only at s1 s2 n1 n2 w1 w2
    have d1 : ¬ seq < 0 := by omega
    have d2 : ¬ next < 0 := by omega
    have d3 : ¬ wal < 0 := by omega
    have d4 : ¬ 1099511627776 < next := by omega
    have d5 : ¬ 1099511627776 < wal := by omega
    simp [numsBad, wholeD, verZero, d1, d2, d3, d4, d5]
  simp only at hs h1 h2 ⊢
  rw [hs, if_neg (by omega), if_neg (by rw [h2]; exact Bool.false_ne_true), if_neg (by rw [hn]; exact Bool.false_ne_true)]
  simp only [wholeD, verZero, or2_zero]

/-- What an edit that is taken makes. -/
structure Took (V : VerD) (e : EdD) (V' : VerD) : Prop where
  drops : ∀ n ∈ e.drop, hasF V.tabs n = true
  adds : ∀ t ∈ e.add, TabOk t
  tabs : V'.tabs = sortD (V.tabs.filter (keepT e.drop) ++ e.add)
  len : V'.tabs.length ≤ 65536
  apart : sharedD V'.tabs = false
  nums : numsBad V e = false
  seq : V'.seq = or2 e.seq V.seq
  next : V'.next = or2 e.next V.next
  wal : V'.wal = or2 e.wal V.wal

theorem drops_there : ∀ {r pre : List Int} {l : List Tb}, dropsBad l pre r = false → ∀ n ∈ r, hasF l n = true
  | [], _, _, _, n, hn => by cases hn
  | m :: r, pre, l, h, n, hn => by
    unfold dropsBad at h
    simp only [Bool.or_eq_false_iff, Bool.not_eq_false'] at h
    rcases List.mem_cons.1 hn with rfl | hn
    · exact h.1.1
    · exact drops_there h.2 n hn

theorem took_of {V : VerD} {e : EdD} (h : (applyD V e).1 = 0) : Took V e (applyD V e).2 := by
  revert h
  unfold applyD
  split
  · intro h; cases h
  · rename_i hd
    split
    · intro h; cases h
    · rename_i l hl
      obtain ⟨e1, e2⟩ := adds_parts hl
      subst e1
      split
      · intro h; cases h
      · rename_i h65
        split
        · intro h; cases h
        · rename_i hsh
          split
          · intro h; cases h
          · rename_i hn
            intro _
            exact ⟨drops_there (by simpa using hd), e2, rfl, by simpa using h65, by simpa using hsh, by simpa using hn, rfl, rfl, rfl⟩

theorem numb_or {x y z : Int} (h : Numb y) (h1 : (x != 0 && decide (x < y)) = false) (h2 : ¬ 1099511627776 < x) (hz : z = or2 x y) : Numb z := by
  subst hz
  unfold or2 Numb at *
  split
  · exact h
  · rename_i hx
    simp only [Bool.and_eq_false_iff, decide_eq_false_iff_not, bne_eq_false_iff_eq] at h1
    rcases h1 with h1 | h1
    · exact absurd h1 hx
    · omega

theorem nums_parts {V : VerD} {e : EdD} (h : numsBad V e = false) : (e.seq != 0 && decide (e.seq < V.seq)) = false ∧ (e.next != 0 && decide (e.next < V.next)) = false ∧ (e.wal != 0 && decide (e.wal < V.wal)) = false ∧ ¬ 1099511627776 < e.next ∧ ¬ 1099511627776 < e.wal := by
  unfold numsBad at h
  simp only [Bool.or_eq_false_iff, decide_eq_false_iff_not] at h
  exact ⟨h.1, h.2.1, h.2.2.1, h.2.2.2.1, h.2.2.2.2⟩

theorem good_took {V V' : VerD} {e : EdD} (hV : Good V) (h : Took V e V') (ho : Once V'.tabs) (hs : Strict V'.tabs) (hseq : 0 ≤ e.seq ∧ e.seq < 18446744073709551616) : Good V' := by
  obtain ⟨n1, n2, n3, n4, n5⟩ := nums_parts h.nums
  refine ⟨ho, hs, fun t ht => ?_, h.len, h.apart, ?_, numb_or hV.next n2 n4 h.next, numb_or hV.wal n3 n5 h.wal⟩
  · rw [h.tabs] at ht
    rcases List.mem_append.1 ((sortD_perm _).mem_iff.1 ht) with h1 | h1
    · exact hV.tabs t (List.mem_filter.1 h1).1
    · exact h.adds t h1
  · rw [h.seq]
    unfold or2
    split
    · exact hV.seq
    · exact hseq

theorem good_apply {V : VerD} {e : EdD} (hV : Good V) (h : (applyD V e).1 = 0) (hseq : 0 ≤ e.seq ∧ e.seq < 18446744073709551616) : Good (applyD V e).2 :=
  good_took hV (took_of h) (applyD_once hV.once) (applyD_strict hV.once) hseq

theorem numb_self {x y : Int} (h : Numb y) (h1 : (x != 0 && decide (x < y)) = false) (h2 : ¬ 1099511627776 < x) : Numb x := by
  unfold Numb at *
  simp only [Bool.and_eq_false_iff, decide_eq_false_iff_not, bne_eq_false_iff_eq] at h1
  rcases h1 with h1 | h1
  · omega
  · omega

/-- An edit that is taken can be written. -/
theorem fit_took {V V' : VerD} {e : EdD} (hV : Good V) (h : Took V e V') (hseq : 0 ≤ e.seq ∧ e.seq < 18446744073709551616) (hal : e.add.length ≤ 65536) (hdl : e.drop.length ≤ 65536) (hk : keyN e.add ≤ 67108864) : EdFit e := by
  obtain ⟨n1, n2, n3, n4, n5⟩ := nums_parts h.nums
  refine ⟨fun t ht => ?_, hal, fun n hn => ?_, hdl, hseq, numb_self hV.next n2 n4, numb_self hV.wal n3 n5⟩
  · have ok := h.adds t ht
    have hkm := keyN_mem ht
    exact ⟨ok.file, ⟨ok.level.1, by have := ok.level.2; omega⟩, by omega, by omega, ok.size⟩
  · have hh := h.drops n hn
    unfold hasF at hh
    obtain ⟨t, ht, hte⟩ := List.any_eq_true.1 hh
    have := (hV.tabs t ht).file
    rw [← (by simpa using hte : t.file = n)]; exact this

theorem fit_whole {V : VerD} (hV : Good V) (hk : keyN V.tabs ≤ 67108864) : EdFit (wholeD V) := by
  refine ⟨fun t ht => ?_, hV.len, fun n hn => by simp [wholeD] at hn, Nat.zero_le _, hV.seq, hV.next, hV.wal⟩
  have ok := hV.tabs t ht
  have hkm : t.first.size + t.last.size ≤ keyN V.tabs := keyN_mem ht
  exact ⟨ok.file, ⟨ok.level.1, by have := ok.level.2; omega⟩, by omega, by omega, ok.size⟩

theorem took_len {V V' : VerD} {e : EdD} (h : Took V e V') : V'.tabs.length ≤ V.tabs.length + e.add.length := by
  rw [h.tabs, (sortD_perm _).length_eq, List.length_append]
  have := List.length_filter_le (keepT e.drop) V.tabs
  omega

theorem took_key {V V' : VerD} {e : EdD} (h : Took V e V') : keyN V'.tabs ≤ keyN V.tabs + keyN e.add := by
  rw [h.tabs, keyN_perm (sortD_perm _), keyN_append]
  have := keyN_filter V.tabs (keepT e.drop)
  omega
end Go.Proofs.YtejpcoghkgjanaaGreatDoor

/- codec.ReadBytes of bytes that were written; the reader of an edit: its steps. -/
namespace Go.Proofs.YtejpcoghkgjanaaGreatDoor
open Go.RowKit Go.Gl Go.Wal

set_option maxRecDepth 100000 in
set_option maxHeartbeats 4000000 in
theorem readBytes_ok {w : World} {bv : Value} {x r : List UInt8} (h : Bv w bv (bytesD x ++ r)) (hx : x.length ≤ 67108864) (hr : r.length ≤ 1000000000000) :
    Calls Tryz.prog 97 #[bv, .int .i64 67108864] w fun e w' => ∃ v, e = .returned (.tuple #[v, .int .i64 (((numD x.length).length + x.length : Nat) : Int), .int .i64 0]) ∧ OwnB w.heap.size w' v x ∧ Grow w w' := by
  have hrn := readNumber_any h
  have he : rnD (bytesD x ++ r) = (x.length, (numD x.length).length, 0) := by unfold bytesD; rw [List.append_assoc]; exact rn_any (by omega) _
  rw [he] at hrn
  have hk := numD_len x.length
  have hlen : (bytesD x ++ r).length = (numD x.length).length + x.length + r.length := by simp [bytesD]; omega
  obtain ⟨ba, bc, rfl⟩ := h.slice
  have hcut := bv_cut h (i := (numD x.length).length) (j := (numD x.length).length + x.length) (by omega) (by omega)
  have hcx : ((bytesD x ++ r).drop (numD x.length).length).take ((numD x.length).length + x.length - (numD x.length).length) = x := by
    unfold bytesD
    rw [List.append_assoc, List.drop_left, Nat.add_sub_cancel_left, List.take_left]
  rw [hcx, Nat.add_sub_cancel_left] at hcut
  have hcl := clone_any hcut (by omega)
  have hle : (numD x.length).length + x.length ≤ bc := by obtain ⟨a', c', e', hc', _⟩ := h; cases e'; omega
  rw [hlen] at hrn ⊢
  generalize (numD x.length).length = k at *
  obtain ⟨ad, had⟩ : ∃ ad, (if bc = k then ba else ba.map (fun x => x.add k)) = ad := ⟨_, rfl⟩
  rw [had] at hcl
  have Hcl := Lib.hid hcl
  have Hrn := Lib.hid hrn
  have e1 : decide ((67108864 : Int) < (x.length : Int)) = false := by simp; omega
  have w1 : IntKind.u64.wrap (((k + x.length + r.length : Nat) : Int) - (k : Int)) = ((x.length + r.length : Nat) : Int) := by simp [IntKind.wrap, IntKind.bits, IntKind.signed]; omega
  have w2 : IntKind.i64.wrap ((k : Int) + (x.length : Int)) = (k : Int) + (x.length : Int) := IntWalk.i64_in _ (by omega)
  have w3 : IntKind.i64.wrap (x.length : Int) = (x.length : Int) := IntWalk.i64_in _ (by omega)
  clear h hrn hcut hcl he hcx hlen
  go_enter Tryz.func97, Tryz.ntmps97
  go_wp2_with fail
  (with_reducible refine Hrn.out.mono ?_)
  rintro e w1 ⟨rfl, hw1⟩
  have hw2 := hw1.symm
  subst hw2
  clear hw1 Hrn
  go_wp2_with fail
  (with_reducible refine Hcl.out.mono ?_)
  rintro e w2 ⟨cv, rfl, ho, hg⟩
  obtain ⟨ca, cc, rfl⟩ := ho.slice
  go_wp2
  go_ret3
  exact ⟨_, by simp, ho, hg⟩

/-- A reader in memory: what it has yet to read, of bytes that lay in w0; no error. -/
structure Rdr (w0 W : World) (rb : Nat) (l : List UInt8) : Prop where
  cell : ∃ bv, W.heap[rb]? = some (.cells #[bv, .int .i64 0] 119 (0, 0)) ∧ Bv w0 bv l
  grow : Grow w0 W
  new : w0.heap.size ≤ rb

/-- Only block g is another, and there are new ones. -/
abbrev GX (g : Nat) (w w' : World) : Prop := w.grownBy w' (some g)
theorem GX.of {g : Nat} {w w' : World} (h : Grow w w') : GX g w w' := by
  obtain ⟨a, b, c, d, e⟩ := h
  exact ⟨a, b, c, d, fun k hk _ => e k hk⟩
theorem GX.refl (g : Nat) (w : World) : GX g w w := GX.of (Grow.refl w)
theorem GX.trans {g : Nat} {a b c : World} (h : GX g a b) (k : GX g b c) : GX g a c := grown_trans h k
theorem GX.heap {g : Nat} {w w' : World} (h : GX g w w') {b : Nat} {o : Obj} (hb : w.heap[b]? = some o) (hne : b ≠ g) : w'.heap[b]? = some o := by
  obtain ⟨_, _, _, _, e⟩ := h
  rw [e b (lt_of_getElem? hb) (fun x => hne (by cases x; rfl))]; exact hb

theorem bv_drop {w : World} {a : Option Addr} {c : Nat} {l : List UInt8} (h : Bv w (.slice a l.length c) l) {n : Nat} (hn : n ≤ l.length) : Bv w (.slice (if c = n then a else a.map (fun x => x.add n)) (l.length - n) (c - n)) (l.drop n) := by
  have := bv_cut h hn (Nat.le_refl _)
  rw [List.take_of_length_le (by simp)] at this
  exact this

theorem Rdr.grow' {w0 W W' : World} {rb : Nat} {l : List UInt8} (h : Rdr w0 W rb l) (hg : Grow W W') : Rdr w0 W' rb l := by
  obtain ⟨bv, h1, h2⟩ := h.cell
  exact ⟨⟨bv, hg.heap h1, h2⟩, h.grow.trans hg, h.new⟩

set_option maxRecDepth 100000 in
theorem rtake_any {w0 W : World} {rb : Nat} {l : List UInt8} (h : Rdr w0 W rb l) {n : Nat} (hn : n ≤ l.length) (_hl : l.length ≤ 1000000000000) :
    Calls Tryz.prog 98 #[.pointer (some ⟨rb, 0, none⟩), .int .i64 n, .int .i64 0] W fun e w' => e = .returned (.tuple #[]) ∧ Rdr w0 w' rb (l.drop n) ∧ GX rb W w' := by
  obtain ⟨bv, h1, h2⟩ := h.cell
  obtain ⟨ba, bc, rfl⟩ := h2.slice
  have hb' := bv_drop h2 hn
  have hle : l.length ≤ bc := by obtain ⟨a', c', e', hc', _⟩ := h2; cases e'; omega
  obtain ⟨ad, had⟩ : ∃ ad, (if bc = n then ba else ba.map (fun x => x.add n)) = ad := ⟨_, rfl⟩
  rw [had] at hb'
  have c0 : W.cell? ⟨rb, 0, none⟩ = some (.slice ba l.length bc) := by simp [World.cell?, h1]
  have c1 : W.cell? ⟨rb, 1, none⟩ = some (.int .i64 0) := by simp [World.cell?, h1]
  have f0 : ∀ i, W.frozen? ⟨rb, i, none⟩ = false := fun i => by simp [World.frozen?, h1]
  have lr := lt_of_getElem? h1
  have hset : ((W.setCell ⟨rb, 1, none⟩ (.int .i64 0)).setCell ⟨rb, 0, none⟩ (.slice ad (l.length - n) (bc - n))).heap[rb]? = some (.cells #[.slice ad (l.length - n) (bc - n), .int .i64 0] 119 (0, 0)) := setCell_heap (setCell_heap h1 1 _) 0 _
  have Hp : Hid (Rdr w0 ((W.setCell ⟨rb, 1, none⟩ (.int .i64 0)).setCell ⟨rb, 0, none⟩ (.slice ad (l.length - n) (bc - n))) rb (l.drop n) ∧ GX rb W ((W.setCell ⟨rb, 1, none⟩ (.int .i64 0)).setCell ⟨rb, 0, none⟩ (.slice ad (l.length - n) (bc - n)))) :=
    Lib.hid ⟨⟨⟨_, hset, hb'⟩, Below.setCell (Below.setCell h.grow (p := ⟨rb, 1, none⟩) h.new _) (p := ⟨rb, 0, none⟩) h.new _, h.new⟩, grown_trans (grown_setCell _ _ _ _) (grown_setCell _ _ _ _)⟩
  clear h h1 h2 hb' hset
  go_enter Tryz.func98, Tryz.ntmps98
  go_wp2
  exact ⟨rfl, .tuple #[], by simp [results, Tryz.results98, go_sem], rfl, Hp.out⟩

set_option maxRecDepth 100000 in
theorem rany_any {w0 W : World} {rb : Nat} {n : Nat} {r : List UInt8} (h : Rdr w0 W rb (numD n ++ r)) (hn : n < 18446744073709551616) (hr : r.length ≤ 900000000000) :
    Calls Tryz.prog 72 #[.pointer (some ⟨rb, 0, none⟩)] W fun e w' => e = .returned (.int .u64 n) ∧ Rdr w0 w' rb r ∧ GX rb W w' := by
  obtain ⟨bv, h1, h2⟩ := h.cell
  have hrn := readNumber_any (h2.grow h.grow)
  rw [rn_any hn r] at hrn
  have hk := numD_len n
  have ht := rtake_any h (n := (numD n).length) (by simp) (by simp; omega)
  rw [List.drop_left] at ht
  have c0 : W.cell? ⟨rb, 0, none⟩ = some bv := by simp [World.cell?, h1]
  have lr := lt_of_getElem? h1
  obtain ⟨ba, bc, rfl⟩ := h2.slice
  have Hrn := Lib.hid hrn
  have Ht := Lib.hid ht
  clear h h1 h2 hrn ht
  generalize (numD n ++ r).length = L at *
  generalize (numD n).length = k at *
  go_enter Tryz.func72, Tryz.ntmps72
  go_wp2_with fail
  (with_reducible refine Hrn.out.mono ?_)
  rintro e w1 ⟨rfl, hw1⟩
  have hw2 := hw1.symm
  subst hw2
  clear hw1 Hrn
  go_wp2_with fail
  (with_reducible refine Ht.out.mono ?_)
  rintro e w2 ⟨rfl, hR, hG⟩
  go_wp2
  go_ret
  exact ⟨rfl, hR, hG⟩

set_option maxRecDepth 100000 in
theorem rupTo_any {w0 W : World} {rb : Nat} {n most : Nat} {r : List UInt8} (h : Rdr w0 W rb (numD n ++ r)) (hn : n ≤ most) (hm : most ≤ 1099511627776) (hr : r.length ≤ 900000000000) :
    Calls Tryz.prog 96 #[.pointer (some ⟨rb, 0, none⟩), .int .u64 most] W fun e w' => e = .returned (.int .i64 n) ∧ Rdr w0 w' rb r ∧ GX rb W w' := by
  have Ha := Lib.hid (rany_any h (by omega) hr)
  have e1 : decide ((most : Int) < (n : Int)) = false := by simp; omega
  have w1 : IntKind.i64.wrap (n : Int) = (n : Int) := IntWalk.i64_in _ (by omega)
  clear h
  go_enter Tryz.func96, Tryz.ntmps96
  go_wp2_with fail
  (with_reducible refine Ha.out.mono ?_)
  rintro e w2 ⟨rfl, hR, hG⟩
  obtain ⟨bv, h1, h2⟩ := hR.cell
  have c1 : w2.cell? ⟨rb, 1, none⟩ = some (.int .i64 0) := by simp [World.cell?, h1]
  have lr := lt_of_getElem? h1
  have HR := Lib.hid (And.intro hR hG)
  clear h1 h2 hR hG Ha
  go_wp2
  go_ret
  exact ⟨rfl, HR.out⟩

set_option maxRecDepth 100000 in
theorem rnumber_any {w0 W : World} {rb : Nat} {n : Nat} {r : List UInt8} (h : Rdr w0 W rb (numD n ++ r)) (hn : n ≤ 1099511627776) (hr : r.length ≤ 900000000000) :
    Calls Tryz.prog 69 #[.pointer (some ⟨rb, 0, none⟩)] W fun e w' => e = .returned (.int .i64 n) ∧ Rdr w0 w' rb r ∧ GX rb W w' := by
  have Ha : Hid (Calls Tryz.prog 96 #[.pointer (some ⟨rb, 0, none⟩), .int .u64 1099511627776] W fun e w' => e = .returned (.int .i64 n) ∧ Rdr w0 w' rb r ∧ GX rb W w') := Lib.hid (rupTo_any h hn (Nat.le_refl _) hr)
  clear h
  go_enter Tryz.func69, Tryz.ntmps69
  go_wp2_with fail
  (with_reducible refine Ha.out.mono ?_)
  rintro e w2 ⟨rfl, hR, hG⟩
  go_wp2
  go_ret
  exact ⟨rfl, hR, hG⟩

set_option maxRecDepth 100000 in
theorem rtext_any {w0 W : World} {rb : Nat} {x r : List UInt8} (h : Rdr w0 W rb (bytesD x ++ r)) (hx : x.length ≤ 67108864) (hr : r.length ≤ 900000000000) :
    Calls Tryz.prog 70 #[.pointer (some ⟨rb, 0, none⟩)] W fun e w' => e = .returned (.string ⟨x.toArray⟩) ∧ Rdr w0 w' rb r ∧ GX rb W w' := by
  obtain ⟨bv, h1, h2⟩ := h.cell
  have hrn := readBytes_ok (h2.grow h.grow) hx (by omega)
  have hk := numD_len x.length
  have hlen : (bytesD x ++ r).length = (numD x.length).length + x.length + r.length := by simp [bytesD]; omega
  have hd : (bytesD x ++ r).drop ((numD x.length).length + x.length) = r := by
    have : (bytesD x).length = (numD x.length).length + x.length := by simp [bytesD]
    rw [← this, List.drop_left]
  have Ht := Lib.hid (fun (w' : World) (hg : Grow W w') => rtake_any (h.grow' hg) (n := (numD x.length).length + x.length) (by omega) (by omega))
  rw [hd] at Ht
  have c0 : W.cell? ⟨rb, 0, none⟩ = some bv := by simp [World.cell?, h1]
  have lr := lt_of_getElem? h1
  obtain ⟨ba, bc, rfl⟩ := h2.slice
  have Hrn := Lib.hid hrn
  clear h h1 h2 hrn hd hlen
  generalize (bytesD x ++ r).length = L at *
  generalize (numD x.length).length + x.length = k at *
  go_enter Tryz.func70, Tryz.ntmps70
  go_wp2_with fail
  (with_reducible refine Hrn.out.mono ?_)
  rintro e w1 ⟨v, rfl, hb, hg⟩
  have ht := Ht.out w1 hg
  have Hb := Lib.hid hb
  have Hg := Lib.hid hg
  have hne : ∀ g, v.ownBlock = some g → g ≠ rb ∧ g < w1.heap.size := fun g hv => ⟨by have := (hb.lt hv).1; omega, (hb.lt hv).2⟩
  have Hne := Lib.hid hne
  clear hne
  have Ht' := Lib.hid ht
  obtain ⟨va, vc, rfl⟩ := hb.slice
  clear hb hg Hrn Ht ht
  go_wp2_with fail
  (with_reducible refine Ht'.out.mono ?_)
  rintro e w2 ⟨rfl, hR, hG⟩
  have hb2 := Hb.out.keep (w' := w2) (fun g hv => by
    obtain ⟨_, _, _, _, hk⟩ := hG
    exact hk g (Hne.out g hv).2 (fun e => (Hne.out g hv).1 (by cases e; rfl)))
  have hconv := conv_text (ownB_bv hb2)
  have HR := Lib.hid (And.intro hR ((GX.of Hg.out).trans hG))
  clear hR hG hb2 Hb Hg Hne Ht'
  go_wp2
  go_ret
  exact ⟨rfl, HR.out⟩
end Go.Proofs.YtejpcoghkgjanaaGreatDoor

/- The reader's list; manifest.Decode of bytes that were written. -/
namespace Go.Proofs.YtejpcoghkgjanaaGreatDoor
open Go.RowKit Go.Gl Go.Wal Mn

def LiInv (I : Nat → World → Prop) (m : Nat) (nv : Value) (wr : World) : Prop := ∃ i : Nat, nv = .int .i64 ((m - i : Nat) : Int) ∧ i ≤ m ∧ I i wr

set_option maxRecDepth 100000 in
theorem rlist_any {w0 W : World} {rb m : Nat} {rest : List UInt8} {fn : FuncId} {caps : Array Value} (I : Nat → World → Prop) (h : Rdr w0 W rb (numD m ++ rest)) (hm : m ≤ 65536) (hr : rest.length ≤ 900000000000)
    (h0 : ∀ w1, Rdr w0 w1 rb rest → GX rb W w1 → I 0 w1) (hI : ∀ i wr, I i wr → ∃ l, Rdr w0 wr rb l)
    (hstep : ∀ i wr, i < m → I i wr → Calls Tryz.prog fn caps wr fun e w' => e = .returned (.tuple #[]) ∧ I (i + 1) w')
    (hfn : ∃ F, Tryz.prog.funcs[fn]? = some F ∧ F.params.size = 0) (henter : ∀ args w, (callFunc fn args).run Tryz.prog w = .ok (.enter fn args) w) :
    Calls Tryz.prog 67 #[.pointer (some ⟨rb, 0, none⟩), .func (.func fn) #[] caps] W fun e w' => e = .returned (.tuple #[]) ∧ I m w' := by
  have Ha : Hid (Calls Tryz.prog 96 #[.pointer (some ⟨rb, 0, none⟩), .int .u64 65536] W fun e w' => e = .returned (.int .i64 m) ∧ Rdr w0 w' rb rest ∧ GX rb W w') := Lib.hid (rupTo_any h hm (by decide) hr)
  have H0 := Lib.hid h0
  have HI := Lib.hid hI
  have Hs := Lib.hid hstep
  clear h h0 hI hstep
  go_enter Tryz.func67, Tryz.ntmps67
  go_wp2_with fail
  (with_reducible refine Ha.out.mono ?_)
  rintro e w1 ⟨rfl, hR, hG⟩
  have Hi0 := Lib.hid (H0.out w1 hR hG)
  clear hR hG H0 Ha
  go_wp2_with fail
  go_loopw [4] (fun nv wr => LiInv I m nv wr) (fun nv _ => (intOf nv).toNat)
  case atStart => exact ⟨0, rfl, Nat.zero_le _, Hi0.out⟩
  case round =>
    obtain ⟨i, rfl, hi, hIi⟩ := hrel
    obtain ⟨l, hR⟩ := HI.out i wr hIi
    obtain ⟨bv, h1, _⟩ := hR.cell
    have c1 : wr.cell? ⟨rb, 1, none⟩ = some (.int .i64 0) := by simp [World.cell?, h1]
    have lr := lt_of_getElem? h1
    clear h1 hR
    by_cases hlt : i < m
    · have hc := Hs.out i wr hlt hIi
      obtain ⟨k, hk⟩ : ∃ k, m - i = k + 1 := ⟨m - i - 1, by omega⟩
      have Hk := Lib.hid hk
      rw [hk]
      have e1 : decide ((0 : Int) < ((k + 1 : Nat) : Int)) = true := by simp
      have w1' : IntKind.i64.wrap (k : Int) = (k : Int) := IntWalk.i64_in _ (by omega)
      have Hc := Lib.hid hc
      clear hk hc hIi
      go_wp2_with fail
      (with_reducible refine Hc.out.mono ?_)
      rintro e w2 ⟨rfl, hI2⟩
      have Hrel : Hid (LiInv I m (.int .i64 (k : Int)) w2) := Lib.hid ⟨i + 1, by rw [show m - (i + 1) = k by have := Hk.out; omega], hlt, hI2⟩
      clear hI2
      go_wp2
      go_roundw
      case rel => exact Hrel.out
      case measure => simp [intOf]
    · have e0 : m - i = 0 := by omega
      obtain rfl : i = m := by omega
      have HIm := Lib.hid hIi
      rw [e0]
      clear hIi e0
      go_wp2
      exact ⟨rfl, .tuple #[], by simp [results, Tryz.results67, go_sem], rfl, HIm.out⟩
end Go.Proofs.YtejpcoghkgjanaaGreatDoor
