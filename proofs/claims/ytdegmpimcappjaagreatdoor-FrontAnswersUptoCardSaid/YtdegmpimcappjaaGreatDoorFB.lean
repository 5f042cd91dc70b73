/- Merged out of X1, X2, X3, X4, X5, X6, X7, X8, X9, XA, XB, XC, XD, XE, XF, XG, XH, XI, XJ: helpers. -/
import GoSem.Claims
import Derived.Lib.ItoaNum
import Derived.Lib.SplitLaws
import Derived.Lib.CutLaws
import Derived.Lib.Atoi
/- Texts escaped and back: the plain law (P1601); numbers in sixteen digits. -/
namespace Go.Front

/-- A byte that is written as it is. -/
def plainB (c : UInt8) : Bool := (decide (65 ≤ c.toNat) && decide (c.toNat ≤ 90)) || (decide (97 ≤ c.toNat) && decide (c.toNat ≤ 122)) || (decide (48 ≤ c.toNat) && decide (c.toNat ≤ 57)) || decide (c.toNat = 45) || decide (c.toNat = 46) || decide (c.toNat = 95) || decide (c.toNat = 126)

/-- A digit of sixteen; 't' is what ten is written as. -/
def digN (t k : Nat) : UInt8 := UInt8.ofNat (if k < 10 then 48 + k else t + (k - 10))

/-- The value of a digit of sixteen. -/
def digV (t : Nat) (c : UInt8) : Option Nat := if 48 ≤ c.toNat ∧ c.toNat ≤ 57 then some (c.toNat - 48) else if t ≤ c.toNat ∧ c.toNat < t + 6 then some (c.toNat - t + 10) else none

def esc1 (c : UInt8) : List UInt8 := if plainB c then [c] else [37, digN 65 (c.toNat / 16), digN 65 (c.toNat % 16)]
def esc (s : List UInt8) : List UInt8 := s.flatMap esc1

theorem digV_digN {t k : Nat} (ht : t = 65 ∨ t = 97) (hk : k < 16) : digV t (digN t k) = some k := by
  have h16 : k = 0 ∨ k = 1 ∨ k = 2 ∨ k = 3 ∨ k = 4 ∨ k = 5 ∨ k = 6 ∨ k = 7 ∨ k = 8 ∨ k = 9 ∨ k = 10 ∨ k = 11 ∨ k = 12 ∨ k = 13 ∨ k = 14 ∨ k = 15 := by omega
  rcases ht with rfl | rfl <;> rcases h16 with rfl | rfl | rfl | rfl | rfl | rfl | rfl | rfl | rfl | rfl | rfl | rfl | rfl | rfl | rfl | rfl <;> decide

/-- The program's way back: a '%' with two bytes behind it is read by its digits. -/
def unescP : List UInt8 → Option (List UInt8)
  | [] => some []
  | [c] => some [c]
  | [c, a] => some [c, a]
  | c :: a :: b :: r =>
    if c = 37 then match digV 65 a, digV 65 b with
      | some x, some y => (unescP r).map (UInt8.ofNat (16 * x + y) :: ·)
      | _, _ => none
    else (unescP (a :: b :: r)).map (c :: ·)

/-- The document's way back. -/
def unescR : List UInt8 → Option (List UInt8)
  | [] => some []
  | [c] => if c = 37 then none else some [c]
  | [c, a] => if c = 37 ∨ a = 37 then none else some [c, a]
  | c :: a :: b :: r =>
    if c = 37 then match digV 65 a, digV 65 b with
      | some x, some y => (unescR r).map (UInt8.ofNat (16 * x + y) :: ·)
      | _, _ => none
    else (unescR (a :: b :: r)).map (c :: ·)

theorem unescP_cons {c : UInt8} (h : c ≠ 37) : ∀ l, unescP (c :: l) = (unescP l).map (c :: ·)
  | [] => rfl
  | [a] => rfl
  | a :: b :: r => by rw [unescP, if_neg h]

theorem unescR_cons {c : UInt8} (h : c ≠ 37) : ∀ l, unescR (c :: l) = (unescR l).map (c :: ·)
  | [] => by simp [unescR, h]
  | [a] => by
    rw [unescR, unescR]
    by_cases ha : a = 37
    · rw [if_pos (.inr ha), if_pos ha]; rfl
    · rw [if_neg (by simp [h, ha]), if_neg ha]; rfl
  | a :: b :: r => by rw [unescR, if_neg h]

theorem plain_ne {c : UInt8} (h : plainB c = true) : c ≠ 37 := by
  rintro rfl
  revert h
  decide

theorem esc_cons (c : UInt8) (s : List UInt8) : esc (c :: s) = esc1 c ++ esc s := rfl

theorem byte_parts (c : UInt8) : UInt8.ofNat (16 * (c.toNat / 16) + c.toNat % 16) = c := by
  rw [Nat.div_add_mod]
  simp

theorem unescP_esc : ∀ s : List UInt8, unescP (esc s) = some s
  | [] => rfl
  | c :: s => by
    rw [esc_cons, esc1]
    by_cases hp : plainB c = true
    · rw [if_pos hp, List.singleton_append, unescP_cons (plain_ne hp), unescP_esc s]
      rfl
    · have hlt : c.toNat < 256 := c.toNat_lt
      rw [if_neg hp, List.cons_append, List.cons_append, List.cons_append, List.nil_append, unescP, if_pos rfl]
      simp only [digV_digN (.inl rfl) (show c.toNat / 16 < 16 by omega), digV_digN (.inl rfl) (show c.toNat % 16 < 16 by omega)]
      rw [unescP_esc s, byte_parts]
      rfl

theorem unescR_esc : ∀ s : List UInt8, unescR (esc s) = some s
  | [] => rfl
  | c :: s => by
    rw [esc_cons, esc1]
    by_cases hp : plainB c = true
    · rw [if_pos hp, List.singleton_append, unescR_cons (plain_ne hp), unescR_esc s]
      rfl
    · have hlt : c.toNat < 256 := c.toNat_lt
      rw [if_neg hp, List.cons_append, List.cons_append, List.cons_append, List.nil_append, unescR, if_pos rfl]
      simp only [digV_digN (.inl rfl) (show c.toNat / 16 < 16 by omega), digV_digN (.inl rfl) (show c.toNat % 16 < 16 by omega)]
      rw [unescR_esc s, byte_parts]
      rfl

/-- What both tell: the text, if these bytes are one escaped. -/
def unesc (s : List UInt8) : Option (List UInt8) := match unescP s with
  | some t => if esc t = s then some t else none
  | none => none

theorem unesc_iff {s t : List UInt8} : unesc s = some t ↔ esc t = s := by
  constructor
  · intro h
    unfold unesc at h
    split at h
    · split at h
      · cases h; assumption
      · cases h
    · cases h
  · rintro rfl
    unfold unesc
    rw [unescP_esc]
    simp

theorem esc_inj {s t : List UInt8} (h : esc s = esc t) : s = t := by
  have := unesc_iff.2 h
  rw [unesc_iff.2 (rfl : esc t = esc t)] at this
  exact (Option.some.inj this).symm

/-- The document's way, checked, is the same. -/
theorem unescR_same (s : List UInt8) : (match unescR s with | some t => if esc t = s then some t else none | none => none) = unesc s := by
  cases h : unesc s with
  | some t =>
    have := unesc_iff.1 h
    subst this
    rw [unescR_esc]
    simp
  | none =>
    cases h2 : unescR s with
    | none => rfl
    | some t =>
      simp only
      split
      · rename_i he
        rw [unesc_iff.2 he] at h
        cases h
      · rfl

/-- Sixteen digits. -/
def hexF : Nat → Nat → List UInt8
  | 0, _ => []
  | k + 1, u => hexF k (u / 16) ++ [digN 97 (u % 16)]
def hex16 (u : Nat) : List UInt8 := hexF 16 u

theorem hexF_len : ∀ k u, (hexF k u).length = k
  | 0, _ => rfl
  | k + 1, u => by rw [hexF, List.length_append, hexF_len k]; rfl

/-- The number that digits tell. -/
def hexV (acc : Nat) : List UInt8 → Option Nat
  | [] => some acc
  | c :: r => (digV 97 c).bind fun d => hexV (16 * acc + d) r

theorem hexV_append : ∀ (a b : List UInt8) (acc : Nat), hexV acc (a ++ b) = (hexV acc a).bind fun v => hexV v b
  | [], _, _ => rfl
  | c :: a, b, acc => by
    rw [List.cons_append, hexV, hexV]
    cases digV 97 c with
    | none => rfl
    | some d => exact hexV_append a b _

theorem hexV_hexF : ∀ (k u acc : Nat), u < 16 ^ k → hexV acc (hexF k u) = some (acc * 16 ^ k + u)
  | 0, u, acc, h => by simp at h; subst h; simp [hexF, hexV]
  | k + 1, u, acc, h => by
    rw [hexF, hexV_append, hexV_hexF k (u / 16) acc (by rw [Nat.pow_succ] at h; omega)]
    simp only [Option.bind_some, hexV, digV_digN (.inr rfl) (show u % 16 < 16 by omega)]
    congr 1
    have h1 : acc * 16 ^ (k + 1) = 16 * (acc * 16 ^ k) := by rw [Nat.pow_succ, ← Nat.mul_assoc, Nat.mul_comm]
    rw [h1]
    omega

theorem hex16_inj {u v : Nat} (hu : u < 2 ^ 64) (hv : v < 2 ^ 64) (h : hex16 u = hex16 v) : u = v := by
  have h1 := hexV_hexF 16 u 0 (by omega)
  have h2 := hexV_hexF 16 v 0 (by omega)
  unfold hex16 at h
  rw [h, h2] at h1
  simpa using h1.symm

theorem digN_digV {t d : Nat} {c : UInt8} (h : digV t c = some d) : d < 16 ∧ digN t d = c := by
  have hlt : c.toNat < 256 := c.toNat_lt
  unfold digV at h
  split at h
  · cases h
    refine ⟨by omega, ?_⟩
    unfold digN
    rw [if_pos (by omega), show 48 + (c.toNat - 48) = c.toNat by omega]
    simp
  · split at h
    · cases h
      refine ⟨by omega, ?_⟩
      unfold digN
      rw [if_neg (by omega), show t + (c.toNat - t + 10 - 10) = c.toNat by omega]
      simp
    · cases h

theorem hexF_split : ∀ (k u : Nat), hexF (k + 1) u = digN 97 (u / 16 ^ k % 16) :: hexF k u
  | 0, u => by simp [hexF]
  | k + 1, u => by
    rw [hexF, hexF_split k (u / 16), hexF, Nat.div_div_eq_div_mul, Nat.pow_succ, Nat.mul_comm 16]
    rfl

theorem hexF_mod : ∀ (k u m : Nat), hexF k (m * 16 ^ k + u) = hexF k u
  | 0, _, _ => rfl
  | k + 1, u, m => by
    have h1 : m * 16 ^ (k + 1) = 16 * (m * 16 ^ k) := by rw [Nat.pow_succ, ← Nat.mul_assoc, Nat.mul_comm]
    rw [hexF, hexF, h1, show (16 * (m * 16 ^ k) + u) / 16 = m * 16 ^ k + u / 16 by omega, hexF_mod k (u / 16) m, show (16 * (m * 16 ^ k) + u) % 16 = u % 16 by omega]

/-- So many digits are just those of their number. -/
theorem hexF_hexV : ∀ (s : List UInt8) (acc v : Nat), hexV acc s = some v → ∃ u, u < 16 ^ s.length ∧ v = acc * 16 ^ s.length + u ∧ hexF s.length u = s
  | [], acc, v, h => by simp [hexV] at h; subst h; exact ⟨0, by simp, by simp, rfl⟩
  | c :: s, acc, v, h => by
    rw [hexV] at h
    cases hd : digV 97 c with
    | none => rw [hd] at h; cases h
    | some d =>
      rw [hd] at h
      simp only [Option.bind_some] at h
      obtain ⟨u, h1, h2, h3⟩ := hexF_hexV s _ _ h
      obtain ⟨h4, h5⟩ := digN_digV hd
      have hp : 0 < 16 ^ s.length := Nat.pow_pos (by decide)
      have h6 : d * 16 ^ s.length + 16 ^ s.length ≤ 16 ^ s.length * 16 := by
        have := Nat.mul_le_mul_right (16 ^ s.length) (show d + 1 ≤ 16 by omega)
        rw [Nat.add_mul, Nat.one_mul, Nat.mul_comm 16] at this
        exact this
      refine ⟨d * 16 ^ s.length + u, ?_, ?_, ?_⟩
      · rw [List.length_cons, Nat.pow_succ]; omega
      · rw [h2, List.length_cons, Nat.pow_succ, Nat.add_mul, Nat.mul_comm 16 acc, Nat.mul_assoc, Nat.mul_comm 16 (16 ^ s.length)]; omega
      · rw [List.length_cons, hexF_split s.length, hexF_mod, h3]
        congr 1
        rw [show (d * 16 ^ s.length + u) / 16 ^ s.length = d by rw [Nat.mul_comm, Nat.mul_add_div hp, Nat.div_eq_of_lt h1, Nat.add_zero], Nat.mod_eq_of_lt h4, h5]

/-- What both read as sixteen digits. -/
def unhex (s : List UInt8) : Option Nat := if s.length = 16 then hexV 0 s else none

theorem unhex_iff {s : List UInt8} {u : Nat} : unhex s = some u ↔ u < 2 ^ 64 ∧ hex16 u = s := by
  unfold unhex hex16
  constructor
  · intro h
    split at h
    · rename_i hl
      obtain ⟨v, h1, h2, h3⟩ := hexF_hexV s 0 u h
      rw [Nat.zero_mul, Nat.zero_add] at h2
      subst h2
      rw [hl] at h1 h3
      exact ⟨by omega, h3⟩
    · cases h
  · rintro ⟨h1, rfl⟩
    rw [if_pos (hexF_len 16 u), hexV_hexF 16 u 0 (by omega)]
    simp
end Go.Front

/- Requests: what is right, what its bytes are (P1501, P1602); two right ops of the same bytes are the same. -/
namespace Go.Front

/-- An operation. -/
structure OpD where
  id : Nat
  kind : Int
  bucket : List UInt8
  key : List UInt8
  after : List UInt8
  n : Int
  upload : Nat
  parts : List Int
  data : List UInt8

def nameC (c : UInt8) : Bool := (decide (97 ≤ c.toNat) && decide (c.toNat ≤ 122)) || (decide (48 ≤ c.toNat) && decide (c.toNat ≤ 57)) || decide (c.toNat = 45) || decide (c.toNat = 46)
def nameB (s : List UInt8) : Bool := s.all nameC && decide (1 ≤ s.length) && decide (s.length ≤ 64)
def keyB (s : List UInt8) : Bool := decide (1 ≤ s.length) && decide (s.length ≤ 1024)

/-- Numbers of parts: each from 1 to 10000, rising. -/
def risingF (last : Int) : List Int → Bool
  | [] => true
  | n :: l => decide (last < n) && decide (n ≤ 10000) && risingF n l
def partsB (l : List Int) : Bool := decide (1 ≤ l.length) && decide (l.length ≤ 10000) && risingF 0 l

/-- Is an operation right? -/
def right (o : OpD) : Bool :=
  if o.kind = 1 ∨ o.kind = 2 then nameB o.bucket && decide (o.key = []) && decide (o.after = []) && decide (o.n = 0) && decide (o.upload = 0) && decide (o.parts = []) && decide (o.data = [])
  else if o.kind = 3 then nameB o.bucket && keyB o.key && decide (o.after = []) && decide (o.n = 0) && decide (o.upload = 0) && decide (o.parts = []) && decide (o.data.length ≤ 16777216)
  else if o.kind = 4 ∨ o.kind = 5 ∨ o.kind = 7 then nameB o.bucket && keyB o.key && decide (o.after = []) && decide (o.n = 0) && decide (o.upload = 0) && decide (o.parts = []) && decide (o.data = [])
  else if o.kind = 6 then nameB o.bucket && decide (o.key.length ≤ 1024) && decide (o.after.length ≤ 1024) && decide (1 ≤ o.n) && decide (o.n ≤ 1000) && decide (o.upload = 0) && decide (o.parts = []) && decide (o.data = [])
  else if o.kind = 8 then decide (o.bucket = []) && decide (o.key = []) && decide (o.after = []) && decide (1 ≤ o.n) && decide (o.n ≤ 10000) && decide (o.parts = []) && decide (o.data.length ≤ 16777216)
  else if o.kind = 9 then decide (o.bucket = []) && decide (o.key = []) && decide (o.after = []) && decide (o.n = 0) && partsB o.parts && decide (o.data = [])
  else if o.kind = 10 then decide (o.bucket = []) && decide (o.key = []) && decide (o.after = []) && decide (o.n = 0) && decide (o.parts = []) && decide (o.data = [])
  else false

/-- A number from 0 on in decimal digits. -/
abbrev decF (n : Nat) : List UInt8 := Lib.decDigits n

def methodD (k : Int) : List UInt8 :=
  if k = 1 ∨ k = 3 ∨ k = 8 then ([80, 85, 84] : List UInt8) else if k = 2 ∨ k = 5 ∨ k = 10 then ([68, 69, 76, 69, 84, 69] : List UInt8) else if k = 7 ∨ k = 9 then ([80, 79, 83, 84] : List UInt8) else ([71, 69, 84] : List UInt8)

def commas : List (List UInt8) → List UInt8
  | [] => []
  | [a] => a
  | a :: b :: l => a ++ 44 :: commas (b :: l)

def targetD (o : OpD) : List UInt8 :=
  if o.kind = 1 ∨ o.kind = 2 then 47 :: o.bucket
  else if o.kind = 6 then 47 :: (o.bucket ++ ([63, 112, 114, 101, 102, 105, 120, 61] ++ (esc o.key ++ ([38, 97, 102, 116, 101, 114, 61] ++ (esc o.after ++ ([38, 110, 61] ++ decF o.n.toNat))))))
  else if o.kind = 8 then [47, 63, 117, 112, 108, 111, 97, 100, 61] ++ (hex16 o.upload ++ ([38, 112, 97, 114, 116, 61] ++ decF o.n.toNat))
  else if o.kind = 9 then [47, 63, 117, 112, 108, 111, 97, 100, 61] ++ (hex16 o.upload ++ ([38, 112, 97, 114, 116, 115, 61] ++ commas (o.parts.map fun n => decF n.toNat)))
  else if o.kind = 10 then [47, 63, 117, 112, 108, 111, 97, 100, 61] ++ (hex16 o.upload ++ [])
  else 47 :: (o.bucket ++ (47 :: esc o.key))

def line0 (o : OpD) : List UInt8 := methodD o.kind ++ ([32] ++ (targetD o ++ ([32] ++ [71, 76, 67, 47, 49])))
def line1 (o : OpD) : List UInt8 := [105, 100, 58, 32] ++ hex16 o.id
def line2 (len : List UInt8) : List UInt8 := [108, 101, 110, 103, 116, 104, 58, 32] ++ len
/-- The head without its end. -/
def headL (o : OpD) (len : List UInt8) : List UInt8 := line0 o ++ ([13, 10] ++ (line1 o ++ ([13, 10] ++ line2 len)))
/-- All ahead of the body, the length being told so. -/
def headD (o : OpD) (len : List UInt8) : List UInt8 := headL o len ++ [13, 10, 13, 10]

def printD (o : OpD) : Option (List UInt8) := if right o then some (headD o (decF o.data.length) ++ o.data) else none
end Go.Front

/- Where a text stands first: plain laws for Index, Cut and Split. -/
namespace Go.Front
open Go.Lib

theorem index_skip {c x : UInt8} {tl r : List UInt8} (h : x ≠ c) : index (x :: r) (c :: tl) = if index r (c :: tl) = -1 then -1 else index r (c :: tl) + 1 := by
  rw [index]
  have : (c :: tl).isPrefixOf (x :: r) = false := by simp [List.isPrefixOf]; intro he; exact absurd he.symm h
  rw [this]
  simp

theorem index_app {c : UInt8} {tl r : List UInt8} : ∀ {a : List UInt8}, (∀ x ∈ a, x ≠ c) → index (a ++ r) (c :: tl) = if index r (c :: tl) = -1 then -1 else (a.length : Int) + index r (c :: tl)
  | [], _ => by
    simp only [List.nil_append, List.length_nil]
    split
    · assumption
    · omega
  | x :: a, h => by
    rw [List.cons_append, index_skip (h x (List.mem_cons_self ..)), index_app (fun y hy => h y (List.mem_cons_of_mem _ hy))]
    have h1 := index_ge r (c :: tl)
    rw [List.length_cons]
    by_cases h2 : index r (c :: tl) = -1
    · simp [h2]
    · rw [if_neg h2, if_neg h2, if_neg (by omega)]
      omega

theorem index_here {sep r : List UInt8} (h : sep ≠ []) : index (sep ++ r) sep = 0 := by
  cases sep with
  | nil => exact absurd rfl h
  | cons c tl =>
    rw [List.cons_append, index]
    have : (c :: tl).isPrefixOf (c :: (tl ++ r)) = true := by
      rw [List.isPrefixOf_iff_prefix]
      exact ⟨r, by simp⟩
    rw [this]
    rfl

theorem index_first' {c : UInt8} {tl a r : List UInt8} (h : ∀ x ∈ a, x ≠ c) : index (a ++ (c :: tl ++ r)) (c :: tl) = a.length := by
  rw [index_app h, index_here (by simp)]
  simp

theorem index_no {c : UInt8} {tl a : List UInt8} (h : ∀ x ∈ a, x ≠ c) : index a (c :: tl) = -1 := by
  have := index_app (c := c) (tl := tl) (r := []) h
  rw [List.append_nil] at this
  rw [this]
  rfl

theorem cut_first {c : UInt8} {tl a r : List UInt8} (h : ∀ x ∈ a, x ≠ c) : cut (a ++ (c :: tl ++ r)) (c :: tl) = (a, r, true) := by
  unfold cut
  rw [index_first' h]
  simp

theorem cut_none {c : UInt8} {tl a : List UInt8} (h : ∀ x ∈ a, x ≠ c) : cut a (c :: tl) = (a, [], false) := by
  unfold cut
  rw [index_no h]
  rfl

/-- Behind a place that looks like the text's front, and isn't: on. -/
theorem index_on {c d x : UInt8} {tl r : List UInt8} (h : x ≠ d) : index (c :: x :: r) (c :: d :: tl) = if index (x :: r) (c :: d :: tl) = -1 then -1 else index (x :: r) (c :: d :: tl) + 1 := by
  rw [index]
  have : (c :: d :: tl).isPrefixOf (c :: x :: r) = false := by simp [List.isPrefixOf]; intro he; exact absurd he.symm h
  rw [this]
  simp

theorem count_none {c : UInt8} {tl a : List UInt8} (h : ∀ x ∈ a, x ≠ c) : ∀ k, countFrom (c :: tl) k a = 0
  | 0 => rfl
  | k + 1 => by rw [countFrom, index_no h]; rfl

theorem count_step {c : UInt8} {tl a r : List UInt8} (h : ∀ x ∈ a, x ≠ c) (k : Nat) : countFrom (c :: tl) (k + 1) (a ++ (c :: tl ++ r)) = 1 + countFrom (c :: tl) k r := by
  rw [countFrom, index_first' h, if_neg (by simp)]
  simp

theorem split_three {c : UInt8} {tl a b d : List UInt8} (ha : ∀ x ∈ a, x ≠ c) (hb : ∀ x ∈ b, x ≠ c) (hd : ∀ x ∈ d, x ≠ c) : Lib.split (a ++ (c :: tl ++ (b ++ (c :: tl ++ d)))) (c :: tl) = [a, b, d] := by
  have hc : count (a ++ (c :: tl ++ (b ++ (c :: tl ++ d)))) (c :: tl) = 2 := by
    unfold count
    have hl : ∃ k, (a ++ (c :: tl ++ (b ++ (c :: tl ++ d)))).length + 1 = k + 1 + 1 := ⟨(a ++ (c :: tl ++ (b ++ (c :: tl ++ d)))).length - 1, by simp; omega⟩
    obtain ⟨k, hk⟩ := hl
    rw [hk, count_step ha, count_step hb, count_none hd]
  unfold Lib.split
  rw [hc, splitK, index_first' ha, if_neg (by simp)]
  simp only [Int.toNat_natCast, Nat.add_zero]
  rw [show (a ++ (c :: tl ++ (b ++ (c :: tl ++ d)))).drop (a.length + (c :: tl).length) = b ++ (c :: tl ++ d) by
    rw [← List.append_assoc, ← List.length_append, List.drop_left], List.take_left, splitK, index_first' hb, if_neg (by simp)]
  simp only [Int.toNat_natCast, Nat.add_zero]
  rw [show (b ++ (c :: tl ++ d)).drop (b.length + (c :: tl).length) = d by
    rw [← List.append_assoc, ← List.length_append, List.drop_left], List.take_left, splitK]
end Go.Front

/- The bytes of a request's line: which occur; what the program's reader tells at them. -/
namespace Go.Front
open Go.Lib

/-- A byte of an escaped text. -/
def escB (c : UInt8) : Bool := plainB c || decide (c = 37)

theorem hexU_plain {k : Nat} (hk : k < 16) : plainB (digN 65 k) = true := by
  have h16 : k = 0 ∨ k = 1 ∨ k = 2 ∨ k = 3 ∨ k = 4 ∨ k = 5 ∨ k = 6 ∨ k = 7 ∨ k = 8 ∨ k = 9 ∨ k = 10 ∨ k = 11 ∨ k = 12 ∨ k = 13 ∨ k = 14 ∨ k = 15 := by omega
  rcases h16 with rfl | rfl | rfl | rfl | rfl | rfl | rfl | rfl | rfl | rfl | rfl | rfl | rfl | rfl | rfl | rfl <;> decide

theorem hexL_plain {k : Nat} (hk : k < 16) : plainB (digN 97 k) = true := by
  have h16 : k = 0 ∨ k = 1 ∨ k = 2 ∨ k = 3 ∨ k = 4 ∨ k = 5 ∨ k = 6 ∨ k = 7 ∨ k = 8 ∨ k = 9 ∨ k = 10 ∨ k = 11 ∨ k = 12 ∨ k = 13 ∨ k = 14 ∨ k = 15 := by omega
  rcases h16 with rfl | rfl | rfl | rfl | rfl | rfl | rfl | rfl | rfl | rfl | rfl | rfl | rfl | rfl | rfl | rfl <;> decide

theorem esc_bytes {s : List UInt8} : ∀ x ∈ esc s, escB x = true := fun x hx => by
  obtain ⟨c, _, hc⟩ := List.mem_flatMap.1 hx
  unfold esc1 at hc
  have hlt : c.toNat < 256 := c.toNat_lt
  split at hc
  · rename_i h
    rw [List.mem_singleton.1 hc]
    simp [escB, h]
  · simp only [List.mem_cons, List.not_mem_nil, or_false] at hc
    rcases hc with rfl | rfl | rfl
    · decide
    · simp [escB, hexU_plain (show c.toNat / 16 < 16 by omega)]
    · simp [escB, hexU_plain (show c.toNat % 16 < 16 by omega)]

theorem name_plain {c : UInt8} (h : nameC c = true) : plainB c = true := by
  unfold nameC at h
  unfold plainB
  simp only [Bool.or_eq_true, Bool.and_eq_true, decide_eq_true_eq] at h ⊢
  omega

theorem hexF_plain : ∀ (k u : Nat), ∀ x ∈ hexF k u, plainB x = true
  | 0, _, x, h => by cases h
  | k + 1, u, x, h => by
    rw [hexF] at h
    rcases List.mem_append.1 h with h | h
    · exact hexF_plain k _ x h
    · rw [List.mem_singleton.1 h]; exact hexL_plain (by omega)

theorem dec_digit (n : Nat) : ∀ x ∈ decF n, 48 ≤ x.toNat ∧ x.toNat ≤ 57 := by
  induction n using Nat.strongRecOn with
  | _ n ih =>
    rw [decF, Lib.decDigits]
    split
    · intro x hx
      rw [List.mem_singleton.1 hx, UInt8.toNat_ofNat_of_lt' (by simp [UInt8.size]; omega)]
      omega
    · intro x hx
      rcases List.mem_append.1 hx with h | h
      · exact ih (n / 10) (by omega) x h
      · rw [List.mem_singleton.1 h, UInt8.toNat_ofNat_of_lt' (by simp [UInt8.size]; omega)]
        omega

theorem digit_plain {c : UInt8} (h : 48 ≤ c.toNat ∧ c.toNat ≤ 57) : plainB c = true := by
  unfold plainB
  simp only [Bool.or_eq_true, Bool.and_eq_true, decide_eq_true_eq]
  omega

/-- No byte of an escaped text is such a sign: '/', '?', '&', '=', ',', a blank, CR, LF. -/
theorem escB_ne {c d : UInt8} (h : escB c = true) (hd : escB d = false) : c ≠ d := fun e => by rw [e, hd] at h; cases h

theorem ne_of_plain {s : List UInt8} (h : ∀ x ∈ s, plainB x = true) {d : UInt8} (hd : escB d = false) : ∀ x ∈ s, x ≠ d := fun x hx => escB_ne (by simp [escB, h x hx]) hd
theorem ne_of_esc {s : List UInt8} {d : UInt8} (hd : escB d = false) : ∀ x ∈ esc s, x ≠ d := fun x hx => escB_ne (esc_bytes x hx) hd
end Go.Front

/- The program's reader of a request's head, as a plain function; what it tells at a right one's head. -/
namespace Go.Front
open Go.Lib

def opZero : OpD := ⟨0, 0, [], [], [], 0, 0, [], []⟩

/-- 'number': digits without noughts ahead, that an int holds. -/
def numP (s : List UInt8) : Option Int := match Lib.atoi s with
  | some n => if 0 ≤ n ∧ n ≤ 9223372036854775807 ∧ decF n.toNat = s then some n else none
  | none => none

def cutP (s p : List UInt8) : Option (List UInt8) := if hasPrefix s p then some (s.drop p.length) else none

def numsP : List (List UInt8) → Option (List Int)
  | [] => some []
  | s :: l => match numP s, numsP l with
    | some n, some r => some (n :: r)
    | _, _ => none

/-- What is asked of an upload. -/
def uploadP (how s : List UInt8) : Option OpD :=
  let id := if 16 < s.length then s.take 16 else s
  let rest := if 16 < s.length then s.drop 16 else []
  match unhex id with
  | none => none
  | some u =>
    match (if how = ([80, 85, 84] : List UInt8) then cutP rest (([38, 112, 97, 114, 116, 61] : List UInt8)) else none) with
    | some part => (numP part).map fun n => { opZero with upload := u, kind := 8, n := n }
    | none =>
      match (if how = ([80, 79, 83, 84] : List UInt8) then cutP rest (([38, 112, 97, 114, 116, 115, 61] : List UInt8)) else none) with
      | some parts => (numsP (Lib.split parts [44])).map fun l => { opZero with upload := u, kind := 9, parts := l }
      | none => if rest = [] ∧ how = ([68, 69, 76, 69, 84, 69] : List UInt8) then some { opZero with upload := u, kind := 10 } else none

def kindK (how : List UInt8) : Int := if how = ([80, 85, 84] : List UInt8) then 3 else if how = ([71, 69, 84] : List UInt8) then 4 else if how = ([68, 69, 76, 69, 84, 69] : List UInt8) then 5 else if how = ([80, 79, 83, 84] : List UInt8) then 7 else 0
def kindB (how : List UInt8) : Int := if how = ([80, 85, 84] : List UInt8) then 1 else if how = ([68, 69, 76, 69, 84, 69] : List UInt8) then 2 else 0

/-- What is asked for. -/
def targetP (how s : List UInt8) : Option OpD :=
  match cutP s (([47, 63, 117, 112, 108, 111, 97, 100, 61] : List UInt8)) with
  | some rest => uploadP how rest
  | none =>
    match cut s [47] with
    | (_, _, false) => none
    | (_, s1, true) =>
      match cut s1 [47] with
      | (name, key, is) =>
        if is = true ∧ contains name [63] = false then (unesc key).map fun k => { opZero with bucket := name, key := k, kind := kindK how }
        else match cut s1 (([63, 112, 114, 101, 102, 105, 120, 61] : List UInt8)) with
          | (name, rest, true) =>
            match cut rest (([38, 97, 102, 116, 101, 114, 61] : List UInt8)) with
            | (_, _, false) => none
            | (pre, rest, true) =>
              match cut rest (([38, 110, 61] : List UInt8)) with
              | (_, _, false) => none
              | (aft, n, true) => match unesc pre, unesc aft, numP n with
                | some k, some a, some n => some { opZero with kind := 6, bucket := name, key := k, after := a, n := n }
                | _, _, _ => none
          | (_, _, false) => some { opZero with bucket := s1, kind := kindB how }

/-- All that stands ahead of the body: the op, and the length that is said. -/
def headP (s : List UInt8) : Option (OpD × List UInt8) :=
  match Lib.split s [13, 10] with
  | [l0, l1, l2] =>
    match Lib.split l0 [32] with
    | [w0, w1, w2] =>
      if w2 = ([71, 76, 67, 47, 49] : List UInt8) then
        match targetP w0 w1, cutP l1 (([105, 100, 58, 32] : List UInt8)), cutP l2 (([108, 101, 110, 103, 116, 104, 58, 32] : List UInt8)) with
        | some o, some id, some size => (unhex id).map fun u => ({ o with id := u }, size)
        | _, _, _ => none
      else none
    | _ => none
  | _ => none
end Go.Front

/- At the head of a right request the program's reader tells the request. -/
namespace Go.Front
open Go.Lib

theorem cutP_app (p r : List UInt8) : cutP (p ++ r) p = some r := by
  unfold cutP hasPrefix
  rw [List.isPrefixOf_iff_prefix.2 ⟨r, rfl⟩, if_pos rfl, List.drop_left]

theorem right_name {o : OpD} (h : nameB o.bucket = true) : (∀ x ∈ o.bucket, nameC x = true) ∧ o.bucket ≠ [] := by
  unfold nameB at h
  simp only [Bool.and_eq_true, decide_eq_true_eq, List.all_eq_true] at h
  exact ⟨h.1.1, fun e => by rw [e] at h; simp at h⟩

theorem name_ne {s : List UInt8} (h : ∀ x ∈ s, nameC x = true) {d : UInt8} (hd : nameC d = false) : ∀ x ∈ s, x ≠ d := fun x hx e => by rw [e] at hx; have := h d hx; rw [hd] at this; cases this

/-- Behind the first '/' no upload is asked of, where a name follows. -/
theorem cutP_upload {s r : List UInt8} (h : ∀ x ∈ s, nameC x = true) (hs : s ≠ []) : cutP (47 :: (s ++ r)) [47, 63, 117, 112, 108, 111, 97, 100, 61] = none := by
  cases s with
  | nil => exact absurd rfl hs
  | cons c s =>
    have hc : c ≠ 63 := name_ne h (by decide) c (List.mem_cons_self ..)
    unfold cutP hasPrefix
    rw [List.cons_append]
    have : ([47, 63, 117, 112, 108, 111, 97, 100, 61] : List UInt8).isPrefixOf (47 :: c :: (s ++ r)) = false := by
      simp [List.isPrefixOf]
      intro e
      exact absurd e.symm hc
    rw [this]
    rfl

theorem targetP_bucket {how s : List UInt8} (h : ∀ x ∈ s, nameC x = true) (hs : s ≠ []) : targetP how (47 :: s) = some { opZero with bucket := s, kind := kindB how } := by
  unfold targetP
  have h0 := cutP_upload (r := []) h hs
  rw [List.append_nil] at h0
  have h1 : cut (47 :: s) [47] = ([], s, true) := cut_first (a := []) (c := 47) (tl := []) (r := s) (fun x hx => by cases hx)
  have h2 : cut s [47] = (s, [], false) := cut_none (name_ne h (by decide))
  have h3 : cut s [63, 112, 114, 101, 102, 105, 120, 61] = (s, [], false) := cut_none (name_ne h (by decide))
  rw [h0, h1]
  dsimp only
  rw [h2]
  dsimp only
  rw [if_neg (by simp), h3]

theorem targetP_key {how s k : List UInt8} (h : ∀ x ∈ s, nameC x = true) (hs : s ≠ []) : targetP how (47 :: (s ++ (47 :: esc k))) = some { opZero with bucket := s, key := k, kind := kindK how } := by
  unfold targetP
  have h0 := cutP_upload (r := 47 :: esc k) h hs
  have h1 : cut (47 :: (s ++ (47 :: esc k))) [47] = ([], s ++ (47 :: esc k), true) := cut_first (a := []) (c := 47) (tl := []) (r := s ++ (47 :: esc k)) (fun x hx => by cases hx)
  have h2 : cut (s ++ (47 :: esc k)) [47] = (s, esc k, true) := cut_first (c := 47) (tl := []) (name_ne h (by decide))
  have h3 : contains s [63] = false := by
    unfold contains
    rw [index_no (name_ne h (by decide))]
    rfl
  rw [h0, h1]
  dsimp only
  rw [h2]
  dsimp only
  rw [if_pos ⟨rfl, h3⟩, unesc_iff.2 rfl]
  rfl

theorem decFrom_append (x y : List UInt8) : ∀ acc, Lib.decFrom acc (x ++ y) = (Lib.decFrom acc x).bind fun a => Lib.decFrom a y := by
  induction x with
  | nil => intro acc; rfl
  | cons b r ih =>
    intro acc
    simp only [List.cons_append, Lib.decFrom]
    cases Lib.digitVal b with
    | none => rfl
    | some d => simp only [ih]; try rfl

theorem digit_val {k : Nat} (h : k < 10) : Lib.digitVal (UInt8.ofNat (48 + k)) = some k := by
  have : k = 0 ∨ k = 1 ∨ k = 2 ∨ k = 3 ∨ k = 4 ∨ k = 5 ∨ k = 6 ∨ k = 7 ∨ k = 8 ∨ k = 9 := by omega
  rcases this with rfl | rfl | rfl | rfl | rfl | rfl | rfl | rfl | rfl | rfl <;> decide

theorem dec_digits (n : Nat) : Lib.decFrom 0 (Lib.decDigits n) = some n := by
  induction n using Nat.strongRecOn with
  | _ n ih =>
    rw [Lib.decDigits]
    split
    · rename_i h
      simp only [Lib.decFrom, digit_val h]; congr 1; omega
    · rename_i h
      rw [decFrom_append, ih (n / 10) (by omega)]
      simp only [Option.bind_some, Lib.decFrom, digit_val (Nat.mod_lt n (by omega : 10 > 0))]
      congr 1
      omega

theorem dec_ne (n : Nat) : Lib.decDigits n ≠ [] := by
  rw [Lib.decDigits]
  split <;> simp

theorem atoi_dec (n : Nat) : Lib.atoi (decF n) = some (n : Int) := by
  have hd := dec_digits n
  have hall := dec_digit n
  unfold decF at hall ⊢
  cases hp : Lib.decDigits n with
  | nil => exact absurd hp (dec_ne n)
  | cons b r =>
    have hb := (hall b (by rw [hp]; exact List.mem_cons_self ..)).1
    have h1 : (b == 45) = false := by
      cases hx : b == 45 with
      | false => rfl
      | true => rw [eq_of_beq hx] at hb; exact absurd hb (by decide)
    have h2 : (b == 43) = false := by
      cases hx : b == 43 with
      | false => rfl
      | true => rw [eq_of_beq hx] at hb; exact absurd hb (by decide)
    rw [hp] at hd
    rw [Lib.atoi, h1, h2]
    simp [Lib.decNat, hd]

theorem numP_dec {n : Int} (h0 : 0 ≤ n) (h1 : n ≤ 9223372036854775807) : numP (decF n.toNat) = some n := by
  unfold numP
  rw [atoi_dec]
  simp only
  have : ((n.toNat : Nat) : Int) = n := by omega
  rw [this, if_pos ⟨h0, h1, rfl⟩]

theorem targetP_list {how s k a : List UInt8} {n : Int} (h : ∀ x ∈ s, nameC x = true) (hs : s ≠ []) (h0 : 0 ≤ n) (h1 : n ≤ 9223372036854775807) :
    targetP how (47 :: (s ++ ([63, 112, 114, 101, 102, 105, 120, 61] ++ (esc k ++ ([38, 97, 102, 116, 101, 114, 61] ++ (esc a ++ ([38, 110, 61] ++ decF n.toNat))))))) = some { opZero with kind := 6, bucket := s, key := k, after := a, n := n } := by
  unfold targetP
  have e0 := cutP_upload (r := [63, 112, 114, 101, 102, 105, 120, 61] ++ (esc k ++ ([38, 97, 102, 116, 101, 114, 61] ++ (esc a ++ ([38, 110, 61] ++ decF n.toNat))))) h hs
  have e1 : cut (47 :: (s ++ ([63, 112, 114, 101, 102, 105, 120, 61] ++ (esc k ++ ([38, 97, 102, 116, 101, 114, 61] ++ (esc a ++ ([38, 110, 61] ++ decF n.toNat))))))) [47] = ([], s ++ ([63, 112, 114, 101, 102, 105, 120, 61] ++ (esc k ++ ([38, 97, 102, 116, 101, 114, 61] ++ (esc a ++ ([38, 110, 61] ++ decF n.toNat))))), true) := cut_first (a := []) (c := 47) (tl := []) (fun x hx => by cases hx)
  have e2 : cut (s ++ ([63, 112, 114, 101, 102, 105, 120, 61] ++ (esc k ++ ([38, 97, 102, 116, 101, 114, 61] ++ (esc a ++ ([38, 110, 61] ++ decF n.toNat)))))) [47] = (s ++ ([63, 112, 114, 101, 102, 105, 120, 61] ++ (esc k ++ ([38, 97, 102, 116, 101, 114, 61] ++ (esc a ++ ([38, 110, 61] ++ decF n.toNat))))), [], false) := by
    refine cut_none (fun x hx => ?_)
    simp only [List.mem_append] at hx
    rcases hx with hx | hx | hx | hx | hx | hx | hx
    · exact name_ne h (by decide) x hx
    · exact (by decide : ∀ x ∈ ([63, 112, 114, 101, 102, 105, 120, 61] : List UInt8), x ≠ 47) x hx
    · exact ne_of_esc (by decide) x hx
    · exact (by decide : ∀ x ∈ ([38, 97, 102, 116, 101, 114, 61] : List UInt8), x ≠ 47) x hx
    · exact ne_of_esc (by decide) x hx
    · exact (by decide : ∀ x ∈ ([38, 110, 61] : List UInt8), x ≠ 47) x hx
    · intro e
      have := dec_digit _ x hx
      rw [e] at this
      exact absurd this.1 (by decide)
  have e3 := cut_first (c := 63) (tl := [112, 114, 101, 102, 105, 120, 61]) (r := esc k ++ ([38, 97, 102, 116, 101, 114, 61] ++ (esc a ++ ([38, 110, 61] ++ decF n.toNat)))) (name_ne h (by decide))
  have e4 := cut_first (c := 38) (tl := [97, 102, 116, 101, 114, 61]) (r := esc a ++ ([38, 110, 61] ++ decF n.toNat)) (ne_of_esc (s := k) (by decide))
  have e5 := cut_first (c := 38) (tl := [110, 61]) (r := decF n.toNat) (ne_of_esc (s := a) (by decide))
  rw [e0, e1]
  dsimp only
  rw [e2]
  dsimp only
  rw [if_neg (by simp), e3]
  dsimp only
  rw [e4]
  dsimp only
  rw [e5]
  dsimp only
  rw [unesc_iff.2 rfl, unesc_iff.2 rfl, numP_dec h0 h1]

theorem cut_pre_same (p r : List UInt8) : cutP (p ++ r) p = some r := cutP_app p r

theorem targetP_up {how r : List UInt8} : targetP how ([47, 63, 117, 112, 108, 111, 97, 100, 61] ++ r) = uploadP how r := by
  unfold targetP
  rw [cutP_app]

theorem upload_take {u : Nat} {r : List UInt8} : (if 16 < (hex16 u ++ r).length then (hex16 u ++ r).take 16 else hex16 u ++ r) = hex16 u ∧ (if 16 < (hex16 u ++ r).length then (hex16 u ++ r).drop 16 else []) = r := by
  have hl : (hex16 u).length = 16 := hexF_len 16 u
  cases r with
  | nil => rw [List.append_nil, if_neg (by omega), if_neg (by omega)]; exact ⟨rfl, rfl⟩
  | cons c r =>
    rw [List.length_append, if_pos (by simp; omega), if_pos (by simp; omega)]
    rw [← hl]
    exact ⟨List.take_left, List.drop_left⟩

theorem uploadP_part {u : Nat} {n : Int} (hu : u < 2 ^ 64) (h0 : 0 ≤ n) (h1 : n ≤ 9223372036854775807) : uploadP [80, 85, 84] (hex16 u ++ ([38, 112, 97, 114, 116, 61] ++ decF n.toNat)) = some { opZero with upload := u, kind := 8, n := n } := by
  have h := upload_take (u := u) (r := [38, 112, 97, 114, 116, 61] ++ decF n.toNat)
  unfold uploadP
  simp only [h.1, h.2, unhex_iff.2 ⟨hu, rfl⟩, if_true, cutP_app]
  rw [numP_dec h0 h1]
  rfl

theorem uploadP_abort {u : Nat} (hu : u < 2 ^ 64) : uploadP [68, 69, 76, 69, 84, 69] (hex16 u ++ []) = some { opZero with upload := u, kind := 10 } := by
  have h := upload_take (u := u) (r := [])
  unfold uploadP
  simp only [h.1, h.2, unhex_iff.2 ⟨hu, rfl⟩]
  rfl

theorem commas_two (a b : List UInt8) (l : List (List UInt8)) : commas (a :: b :: l) = a ++ (44 :: [] ++ commas (b :: l)) := rfl

theorem commas_count : ∀ (l : List (List UInt8)) (k : Nat), l.length ≤ k → (∀ a ∈ l, ∀ x ∈ a, x ≠ 44) → countFrom [44] k (commas l) = l.length - 1
  | [], k, _, _ => count_none (c := 44) (tl := []) (a := []) (fun x hx => by cases hx) k
  | [a], k, _, h => count_none (c := 44) (tl := []) (h a (List.mem_cons_self ..)) k
  | a :: b :: l, 0, hk, _ => by simp at hk
  | a :: b :: l, k + 1, hk, h => by
    rw [commas_two, count_step (c := 44) (tl := []) (h a (List.mem_cons_self ..)), commas_count (b :: l) k (by simp at hk ⊢; omega) (fun c hc => h c (List.mem_cons_of_mem _ hc))]
    simp; omega

theorem commas_len : ∀ l : List (List UInt8), l.length ≤ (commas l).length + 1
  | [] => by simp
  | [a] => by simp
  | a :: b :: l => by
    have := commas_len (b :: l)
    rw [commas_two, List.length_append, List.length_append]
    simp at this ⊢
    omega

theorem commas_splitK : ∀ l : List (List UInt8), l ≠ [] → (∀ a ∈ l, ∀ x ∈ a, x ≠ 44) → splitK [44] 0 (l.length - 1) (commas l) = l
  | [], h, _ => absurd rfl h
  | [a], _, _ => rfl
  | a :: b :: l, _, h => by
    have ih := commas_splitK (b :: l) (by simp) (fun c hc => h c (List.mem_cons_of_mem _ hc))
    rw [commas_two, show (a :: b :: l).length - 1 = (b :: l).length - 1 + 1 by simp, splitK, index_first' (c := 44) (tl := []) (h a (List.mem_cons_self ..)), if_neg (by simp)]
    simp only [Int.toNat_natCast, Nat.add_zero]
    have hd : (a ++ (44 :: [] ++ commas (b :: l))).drop (a.length + ([44] : List UInt8).length) = commas (b :: l) := by
      rw [← List.append_assoc, show a.length + ([44] : List UInt8).length = (a ++ (44 :: ([] : List UInt8))).length by simp, List.drop_left]
    rw [hd, List.take_left, ih]

theorem split_commas {l : List (List UInt8)} (hl : l ≠ []) (h : ∀ a ∈ l, ∀ x ∈ a, x ≠ 44) : Lib.split (commas l) [44] = l := by
  unfold Lib.split count
  rw [commas_count l _ (commas_len l) h, commas_splitK l hl h]

theorem numsP_dec : ∀ l : List Int, (∀ n ∈ l, 0 ≤ n ∧ n ≤ 9223372036854775807) → numsP (l.map fun n => decF n.toNat) = some l
  | [], _ => rfl
  | n :: l, h => by
    rw [List.map_cons, numsP, numP_dec (h n (List.mem_cons_self ..)).1 (h n (List.mem_cons_self ..)).2, numsP_dec l (fun m hm => h m (List.mem_cons_of_mem _ hm))]

theorem uploadP_complete {u : Nat} {l : List Int} (hu : u < 2 ^ 64) (hl : l ≠ []) (h : ∀ n ∈ l, 0 ≤ n ∧ n ≤ 9223372036854775807) : uploadP [80, 79, 83, 84] (hex16 u ++ ([38, 112, 97, 114, 116, 115, 61] ++ commas (l.map fun n => decF n.toNat))) = some { opZero with upload := u, kind := 9, parts := l } := by
  have hu2 := upload_take (u := u) (r := [38, 112, 97, 114, 116, 115, 61] ++ commas (l.map fun n => decF n.toNat))
  have hs := split_commas (l := l.map fun n => decF n.toNat) (by simpa using hl) (fun a ha x hx e => by
    obtain ⟨n, _, rfl⟩ := List.mem_map.1 ha
    have := dec_digit _ x hx
    rw [e] at this
    exact absurd this.1 (by decide))
  unfold uploadP
  simp only [hu2.1, hu2.2, unhex_iff.2 ⟨hu, rfl⟩, if_true, cutP_app]
  rw [if_neg (by decide)]
  simp only [hs, numsP_dec l h]
  rfl
end Go.Front

/- The program's reader at the head of a right request. -/
namespace Go.Front
open Go.Lib

/-- A request without its number and body. -/
def bare (o : OpD) : OpD := { o with id := 0, data := [] }

theorem rising_le : ∀ (l : List Int) (m : Int), 0 ≤ m → risingF m l = true → ∀ n ∈ l, 0 ≤ n ∧ n ≤ 10000
  | [], _, _, _, n, h => by cases h
  | x :: l, m, h0, hr, n, hn => by
    simp only [risingF, Bool.and_eq_true, decide_eq_true_eq] at hr
    rcases List.mem_cons.1 hn with rfl | hn
    · omega
    · exact rising_le l x (by omega) hr.2 n hn

theorem targetP_right {o : OpD} (h : right o = true) (hu : o.upload < 2 ^ 64) : targetP (methodD o.kind) (targetD o) = some (bare o) := by
  obtain ⟨id, kind, bucket, key, after, n, upload, parts, data⟩ := o
  unfold right at h
  dsimp only at h hu ⊢
  by_cases k1 : kind = 1 ∨ kind = 2
  · rw [if_pos k1] at h
    simp only [Bool.and_eq_true, decide_eq_true_eq] at h
    obtain ⟨⟨⟨⟨⟨⟨hn, rfl⟩, rfl⟩, rfl⟩, rfl⟩, rfl⟩, rfl⟩ := h
    have hb := right_name (o := ⟨id, kind, bucket, [], [], 0, 0, [], []⟩) hn
    rw [targetD, if_pos k1, targetP_bucket hb.1 hb.2]
    rcases k1 with rfl | rfl <;> rfl
  rw [if_neg k1] at h
  by_cases k3 : kind = 3
  · subst k3
    rw [if_pos rfl] at h
    simp only [Bool.and_eq_true, decide_eq_true_eq] at h
    obtain ⟨⟨⟨⟨⟨⟨hn, _⟩, rfl⟩, rfl⟩, rfl⟩, rfl⟩, _⟩ := h
    have hb := right_name (o := ⟨id, 3, bucket, key, [], 0, 0, [], []⟩) hn
    have ht : targetD ⟨id, 3, bucket, key, [], 0, 0, [], data⟩ = 47 :: (bucket ++ (47 :: esc key)) := rfl
    rw [ht, targetP_key hb.1 hb.2]
    rfl
  rw [if_neg k3] at h
  by_cases k4 : kind = 4 ∨ kind = 5 ∨ kind = 7
  · rw [if_pos k4] at h
    simp only [Bool.and_eq_true, decide_eq_true_eq] at h
    obtain ⟨⟨⟨⟨⟨⟨hn, _⟩, rfl⟩, rfl⟩, rfl⟩, rfl⟩, rfl⟩ := h
    have hb := right_name (o := ⟨id, 3, bucket, key, [], 0, 0, [], []⟩) hn
    have ht : targetD ⟨id, kind, bucket, key, [], 0, 0, [], []⟩ = 47 :: (bucket ++ (47 :: esc key)) := by rcases k4 with rfl | rfl | rfl <;> rfl
    rw [ht, targetP_key hb.1 hb.2]
    rcases k4 with rfl | rfl | rfl <;> rfl
  rw [if_neg k4] at h
  by_cases k6 : kind = 6
  · subst k6
    rw [if_pos rfl] at h
    simp only [Bool.and_eq_true, decide_eq_true_eq] at h
    obtain ⟨⟨⟨⟨⟨⟨⟨hn, _⟩, _⟩, h0⟩, h1⟩, rfl⟩, rfl⟩, rfl⟩ := h
    have hb := right_name (o := ⟨id, 3, bucket, key, [], 0, 0, [], []⟩) hn
    have ht : targetD ⟨id, 6, bucket, key, after, n, 0, [], []⟩ = 47 :: (bucket ++ ([63, 112, 114, 101, 102, 105, 120, 61] ++ (esc key ++ ([38, 97, 102, 116, 101, 114, 61] ++ (esc after ++ ([38, 110, 61] ++ decF n.toNat)))))) := rfl
    rw [ht, targetP_list hb.1 hb.2 (by omega) (by omega)]
    rfl
  rw [if_neg k6] at h
  by_cases k8 : kind = 8
  · subst k8
    rw [if_pos rfl] at h
    simp only [Bool.and_eq_true, decide_eq_true_eq] at h
    obtain ⟨⟨⟨⟨⟨⟨rfl, rfl⟩, rfl⟩, h0⟩, h1⟩, rfl⟩, _⟩ := h
    have ht : targetD ⟨id, 8, [], [], [], n, upload, [], data⟩ = [47, 63, 117, 112, 108, 111, 97, 100, 61] ++ (hex16 upload ++ ([38, 112, 97, 114, 116, 61] ++ decF n.toNat)) := rfl
    rw [ht, targetP_up]
    exact uploadP_part hu (by omega) (by omega)
  rw [if_neg k8] at h
  by_cases k9 : kind = 9
  · subst k9
    rw [if_pos rfl] at h
    simp only [Bool.and_eq_true, decide_eq_true_eq] at h
    obtain ⟨⟨⟨⟨⟨rfl, rfl⟩, rfl⟩, rfl⟩, hp⟩, rfl⟩ := h
    unfold partsB at hp
    simp only [Bool.and_eq_true, decide_eq_true_eq] at hp
    have ht : targetD ⟨id, 9, [], [], [], 0, upload, parts, []⟩ = [47, 63, 117, 112, 108, 111, 97, 100, 61] ++ (hex16 upload ++ ([38, 112, 97, 114, 116, 115, 61] ++ commas (parts.map fun n => decF n.toNat))) := rfl
    rw [ht, targetP_up]
    exact uploadP_complete hu (fun e => by rw [e] at hp; simp at hp) (fun m hm => by have := rising_le parts 0 (by omega) hp.2 m hm; omega)
  rw [if_neg k9] at h
  by_cases k10 : kind = 10
  · subst k10
    rw [if_pos rfl] at h
    simp only [Bool.and_eq_true, decide_eq_true_eq] at h
    obtain ⟨⟨⟨⟨⟨rfl, rfl⟩, rfl⟩, rfl⟩, rfl⟩, rfl⟩ := h
    have ht : targetD ⟨id, 10, [], [], [], 0, upload, [], []⟩ = [47, 63, 117, 112, 108, 111, 97, 100, 61] ++ (hex16 upload ++ []) := rfl
    rw [ht, targetP_up]
    exact uploadP_abort hu
  · rw [if_neg k10] at h
    cases h
end Go.Front

/- The bytes of a right request's lines. -/
namespace Go.Front
open Go.Lib

/-- A byte that a target may have. -/
def tgB (c : UInt8) : Bool := escB c || decide (c = 47) || decide (c = 63) || decide (c = 61) || decide (c = 38) || decide (c = 44)

theorem tg_esc {c : UInt8} (h : escB c = true) : tgB c = true := by simp [tgB, h]
theorem tg_plain {c : UInt8} (h : plainB c = true) : tgB c = true := tg_esc (by simp [escB, h])

theorem right_bucket {o : OpD} (h : right o = true) : ∀ x ∈ o.bucket, nameC x = true := by
  have key : nameB o.bucket = true ∨ o.bucket = [] := by
    unfold right at h
    repeat' split at h
    all_goals simp only [Bool.and_eq_true, decide_eq_true_eq, Bool.false_eq_true] at h
    all_goals first | exact .inl h.1.1.1.1.1.1 | exact .inl h.1.1.1.1.1.1.1 | exact .inr h.1.1.1.1.1.1 | exact .inr h.1.1.1.1.1
  rcases key with hk | hk
  · exact (right_name hk).1
  · intro x hx; rw [hk] at hx; cases hx

theorem commas_bytes : ∀ (l : List (List UInt8)), (∀ a ∈ l, ∀ x ∈ a, plainB x = true) → ∀ x ∈ commas l, tgB x = true
  | [], _, x, hx => by cases hx
  | [a], h, x, hx => tg_plain (h a (List.mem_cons_self ..) x hx)
  | a :: b :: l, h, x, hx => by
    rw [commas_two] at hx
    simp only [List.cons_append, List.nil_append, List.mem_append, List.mem_cons] at hx
    rcases hx with hx | rfl | hx
    · exact tg_plain (h a (List.mem_cons_self ..) x hx)
    · decide
    · exact commas_bytes (b :: l) (fun c hc => h c (List.mem_cons_of_mem _ hc)) x hx

theorem dec_tg {n : Nat} : ∀ x ∈ decF n, tgB x = true := fun x hx => tg_plain (digit_plain (dec_digit n x hx))
theorem hex_tg {u : Nat} : ∀ x ∈ hex16 u, tgB x = true := fun x hx => tg_plain (hexF_plain 16 u x hx)
theorem esc_tg {s : List UInt8} : ∀ x ∈ esc s, tgB x = true := fun x hx => tg_esc (esc_bytes x hx)

theorem all_app {a b : List UInt8} (ha : ∀ x ∈ a, tgB x = true) (hb : ∀ x ∈ b, tgB x = true) : ∀ x ∈ a ++ b, tgB x = true := fun x hx => by
  rcases List.mem_append.1 hx with h | h
  · exact ha x h
  · exact hb x h

theorem all_cons {c : UInt8} {b : List UInt8} (hc : tgB c = true) (hb : ∀ x ∈ b, tgB x = true) : ∀ x ∈ c :: b, tgB x = true := fun x hx => by
  rcases List.mem_cons.1 hx with rfl | h
  · exact hc
  · exact hb x h

theorem target_bytes {o : OpD} (h : right o = true) : ∀ x ∈ targetD o, tgB x = true := by
  have hb : ∀ x ∈ o.bucket, tgB x = true := fun x hx => tg_plain (name_plain (right_bucket h x hx))
  have hc : ∀ x ∈ commas (o.parts.map fun n => decF n.toNat), tgB x = true := commas_bytes _ (fun a ha x hx => by
    obtain ⟨n, _, rfl⟩ := List.mem_map.1 ha
    exact digit_plain (dec_digit _ x hx))
  unfold targetD
  split
  · exact all_cons (by decide) hb
  split
  · exact all_cons (by decide) (all_app hb (all_app (by decide) (all_app esc_tg (all_app (by decide) (all_app esc_tg (all_app (by decide) dec_tg))))))
  split
  · exact all_app (by decide) (all_app hex_tg (all_app (by decide) dec_tg))
  split
  · exact all_app (by decide) (all_app hex_tg (all_app (by decide) hc))
  split
  · exact all_app (by decide) (all_app hex_tg (by decide))
  · exact all_cons (by decide) (all_app hb (all_cons (by decide) esc_tg))

theorem tg_ne {s : List UInt8} (h : ∀ x ∈ s, tgB x = true) {d : UInt8} (hd : tgB d = false) : ∀ x ∈ s, x ≠ d := fun x hx e => by have := h x hx; rw [e, hd] at this; cases this

theorem method_bytes (k : Int) : ∀ x ∈ methodD k, tgB x = true := by
  unfold methodD
  split
  · decide
  split
  · decide
  split <;> decide

theorem app_ne {a b : List UInt8} {d : UInt8} (ha : ∀ x ∈ a, x ≠ d) (hb : ∀ x ∈ b, x ≠ d) : ∀ x ∈ a ++ b, x ≠ d := fun x hx => by
  rcases List.mem_append.1 hx with h | h
  · exact ha x h
  · exact hb x h

theorem line0_ne {o : OpD} (h : right o = true) : ∀ x ∈ line0 o, x ≠ 13 := by
  unfold line0
  exact app_ne (tg_ne (method_bytes _) (by decide)) (app_ne (by decide) (app_ne (tg_ne (target_bytes h) (by decide)) (app_ne (by decide) (by decide))))
theorem line1_ne (o : OpD) : ∀ x ∈ line1 o, x ≠ 13 := by
  unfold line1
  exact app_ne (by decide) (tg_ne hex_tg (by decide))
theorem line2_ne {len : List UInt8} (h : ∀ x ∈ len, x ≠ 13) : ∀ x ∈ line2 len, x ≠ 13 := by
  unfold line2
  exact app_ne (by decide) h

/-- The program's reader tells a right request at its head. -/
theorem headP_right {o : OpD} {len : List UInt8} (h : right o = true) (hu : o.upload < 2 ^ 64) (hi : o.id < 2 ^ 64) (hl : ∀ x ∈ len, x ≠ 13) : headP (headL o len) = some ({ bare o with id := o.id }, len) := by
  have e1 : Lib.split (headL o len) [13, 10] = [line0 o, line1 o, line2 len] := split_three (c := 13) (tl := [10]) (line0_ne h) (line1_ne o) (line2_ne hl)
  have e2 : Lib.split (line0 o) [32] = [methodD o.kind, targetD o, [71, 76, 67, 47, 49]] := split_three (c := 32) (tl := []) (tg_ne (method_bytes _) (by decide)) (tg_ne (target_bytes h) (by decide)) (by decide)
  have e3 : cutP (line1 o) [105, 100, 58, 32] = some (hex16 o.id) := cutP_app _ _
  have e4 : cutP (line2 len) [108, 101, 110, 103, 116, 104, 58, 32] = some len := cutP_app _ _
  unfold headP
  rw [e1]
  dsimp only
  rw [e2]
  dsimp only
  rw [if_pos rfl, targetP_right h hu, e3, e4]
  dsimp only
  rw [unhex_iff.2 ⟨hi, rfl⟩]
  rfl
end Go.Front

/- Where the head of a right request ends; fronts of it have no end. -/
namespace Go.Front
open Go.Lib

abbrev crlf2 : List UInt8 := [13, 10, 13, 10]

theorem index_short : ∀ (a sep : List UInt8), a.length < sep.length → index a sep = -1
  | [], [], h => by simp at h
  | [], c :: tl, _ => rfl
  | x :: a, sep, h => by
    rw [index]
    have hp : sep.isPrefixOf (x :: a) = false := by
      cases hq : sep.isPrefixOf (x :: a) with
      | false => rfl
      | true =>
        have := (List.isPrefixOf_iff_prefix.1 hq).length_le
        omega
    rw [hp, index_short a sep (by simp at h; omega)]
    rfl

/-- The first place in a front is the first place in the whole. -/
theorem index_left : ∀ (a r sep : List UInt8), index a sep ≠ -1 → index (a ++ r) sep = index a sep
  | [], r, sep, h => by
    cases sep with
    | nil => cases r <;> rfl
    | cons c tl => exact absurd rfl h
  | x :: a, r, sep, h => by
    rw [List.cons_append, index, index]
    rw [index] at h
    by_cases hp : sep.isPrefixOf (x :: a) = true
    · have hq : sep.isPrefixOf (x :: (a ++ r)) = true := by
        rw [List.isPrefixOf_iff_prefix] at hp ⊢
        obtain ⟨t, ht⟩ := hp
        exact ⟨t ++ r, by rw [← List.append_assoc, ht]; rfl⟩
      rw [hp, hq]
      rfl
    · have hp' : sep.isPrefixOf (x :: a) = false := (Bool.not_eq_true _).mp hp
      rw [hp'] at h ⊢
      simp only [Bool.false_eq_true, if_false] at h ⊢
      have h1 : index a sep ≠ -1 := fun e => by rw [e] at h; exact h rfl
      rw [index_left a r sep h1]
      have hq : sep.isPrefixOf (x :: (a ++ r)) = false := by
        cases hq : sep.isPrefixOf (x :: (a ++ r)) with
        | false => rfl
        | true =>
          exfalso
          rw [List.isPrefixOf_iff_prefix] at hq
          have hl : ¬ a.length < sep.length := fun hl => h1 (index_short a sep hl)
          have : sep <+: x :: a := by
            have h2 : x :: a <+: x :: (a ++ r) := ⟨r, rfl⟩
            exact List.prefix_of_prefix_length_le hq h2 (by simp; omega)
          rw [← List.isPrefixOf_iff_prefix, hp'] at this
          cases this
      rw [hq]
      rfl

theorem index_crlf {x : UInt8} {r : List UInt8} (h : x ≠ 13) : index (13 :: 10 :: x :: r) crlf2 = if index (x :: r) crlf2 = -1 then -1 else 2 + index (x :: r) crlf2 := by
  have h0 := index_ge (x :: r) crlf2
  rw [index]
  have h1 : crlf2.isPrefixOf (13 :: 10 :: x :: r) = false := by
    simp [List.isPrefixOf]
    intro e
    exact absurd e.symm h
  have h3 := index_skip (c := 13) (tl := [10, 13, 10]) (x := 10) (r := x :: r) (by decide)
  have h4 : index (10 :: x :: r) crlf2 = if index (x :: r) crlf2 = -1 then -1 else index (x :: r) crlf2 + 1 := h3
  rw [h1, h4]
  simp only [Bool.false_eq_true, if_false]
  by_cases h2 : index (x :: r) crlf2 = -1
  · simp [h2]
  · rw [if_neg h2, if_neg h2]
    have h5 : (index (x :: r) crlf2 + 1 == -1) = false := by simp; omega
    rw [h5]
    simp only [Bool.false_eq_true, if_false]
    omega

theorem line1_cons (o : OpD) : ∃ r, line1 o = 105 :: r := ⟨_, rfl⟩
theorem line2_cons (len : List UInt8) : ∃ r, line2 len = 108 :: r := ⟨_, rfl⟩

theorem head_at {o : OpD} {len : List UInt8} (h : right o = true) (hl : ∀ x ∈ len, x ≠ 13) (r : List UInt8) : index (headD o len ++ r) crlf2 = (headL o len).length := by
  have e : headD o len ++ r = line0 o ++ (13 :: 10 :: (line1 o ++ (13 :: 10 :: (line2 len ++ (crlf2 ++ r))))) := by simp [headD, headL]
  have i3 : index (line2 len ++ (crlf2 ++ r)) crlf2 = (line2 len).length := index_first' (c := 13) (tl := [10, 13, 10]) (line2_ne hl)
  have i2 : index (13 :: 10 :: (line2 len ++ (crlf2 ++ r))) crlf2 = 2 + (line2 len).length := by
    obtain ⟨q, hq⟩ := line2_cons len
    rw [hq, List.cons_append] at i3
    have := index_crlf (x := 108) (r := q ++ (crlf2 ++ r)) (by decide)
    rw [i3, if_neg (by omega)] at this
    rw [hq, List.cons_append]
    exact this
  have i1 : index (line1 o ++ (13 :: 10 :: (line2 len ++ (crlf2 ++ r)))) crlf2 = (line1 o).length + (2 + (line2 len).length) := by
    have := index_app (c := 13) (tl := [10, 13, 10]) (a := line1 o) (r := 13 :: 10 :: (line2 len ++ (crlf2 ++ r))) (line1_ne o)
    rw [this, i2, if_neg (by omega)]
  have i0 : index (13 :: 10 :: (line1 o ++ (13 :: 10 :: (line2 len ++ (crlf2 ++ r))))) crlf2 = 2 + ((line1 o).length + (2 + (line2 len).length)) := by
    obtain ⟨q, hq⟩ := line1_cons o
    rw [hq, List.cons_append] at i1
    have := index_crlf (x := 105) (r := q ++ (13 :: 10 :: (line2 len ++ (crlf2 ++ r)))) (by decide)
    rw [i1, if_neg (by omega)] at this
    rw [hq, List.cons_append]
    exact this
  rw [e, index_app (c := 13) (tl := [10, 13, 10]) (a := line0 o) (line0_ne h), i0, if_neg (by omega)]
  simp [headL]
  omega

theorem headD_len (o : OpD) (len : List UInt8) : (headD o len).length = (headL o len).length + 4 := by simp [headD]

/-- A front that is shorter than the head has no end of a head. -/
theorem front_at {o : OpD} {len : List UInt8} (h : right o = true) (hl : ∀ x ∈ len, x ≠ 13) {c : Nat} (hc : c < (headD o len).length) (r : List UInt8) : index ((headD o len ++ r).take c) crlf2 = -1 := by
  cases hi : decide (index ((headD o len ++ r).take c) crlf2 = -1) with
  | true => simpa using hi
  | false =>
    exfalso
    have hi' : index ((headD o len ++ r).take c) crlf2 ≠ -1 := by simpa using hi
    have h1 := index_left _ ((headD o len ++ r).drop c) crlf2 hi'
    rw [List.take_append_drop, head_at h hl r] at h1
    have h0 := index_ge ((headD o len ++ r).take c) crlf2
    have h2 := index_room ((headD o len ++ r).take c) crlf2 (by omega)
    rw [← h1, List.length_take] at h2
    have h3 := headD_len o len
    simp [crlf2] at h2
    omega
end Go.Front

/- Decimal digits: which texts are a number's; the document's reader as a plain function. -/
namespace Go.Front
open Go.Lib

def isDig (c : UInt8) : Bool := decide (48 ≤ c.toNat) && decide (c.toNat ≤ 57)

/-- Digits without noughts ahead. -/
def canon (s : List UInt8) : Bool := s.all isDig && decide (s ≠ []) && (decide (s.length = 1) || decide (s.head? ≠ some 48))

/-- The value of digits. -/
def valD (acc : Nat) (l : List UInt8) : Nat := l.foldl (fun a c => 10 * a + (c.toNat - 48)) acc

theorem valD_cons (acc : Nat) (c : UInt8) (r : List UInt8) : valD acc (c :: r) = valD (10 * acc + (c.toNat - 48)) r := by unfold valD; rw [List.foldl_cons]

theorem valD_app (a b : List UInt8) (acc : Nat) : valD acc (a ++ b) = valD (valD acc a) b := by unfold valD; rw [List.foldl_append]

theorem decF_step {m d : Nat} (hm : 0 < m) (hd : d < 10) : decF (10 * m + d) = decF m ++ [UInt8.ofNat (48 + d)] := by
  show Lib.decDigits (10 * m + d) = _
  rw [Lib.decDigits, dif_neg (by omega), show (10 * m + d) / 10 = m by omega, show (10 * m + d) % 10 = d by omega]

theorem dig_back {c : UInt8} (h : isDig c = true) : UInt8.ofNat (48 + (c.toNat - 48)) = c ∧ c.toNat - 48 < 10 := by
  unfold isDig at h
  simp only [Bool.and_eq_true, decide_eq_true_eq] at h
  rw [show 48 + (c.toNat - 48) = c.toNat by omega]
  exact ⟨by simp, by omega⟩

theorem dec_of_digits : ∀ (r : List UInt8) (m : Nat), 0 < m → r.all isDig = true → decF (valD m r) = decF m ++ r
  | [], m, _, _ => by show decF m = _; rw [List.append_nil]
  | c :: r, m, hm, h => by
    simp only [List.all_cons, Bool.and_eq_true] at h
    obtain ⟨h1, h2⟩ := dig_back h.1
    rw [valD_cons, dec_of_digits r (10 * m + (c.toNat - 48)) (by omega) h.2, decF_step hm h2, h1]
    simp

theorem canon_dec {s : List UInt8} (h : canon s = true) : decF (valD 0 s) = s := by
  unfold canon at h
  simp only [Bool.and_eq_true, decide_eq_true_eq, Bool.or_eq_true] at h
  obtain ⟨⟨h1, h2⟩, h3⟩ := h
  cases s with
  | nil => exact absurd rfl h2
  | cons c r =>
    simp only [List.all_cons, Bool.and_eq_true] at h1
    obtain ⟨e1, e2⟩ := dig_back h1.1
    have e0 : decF (c.toNat - 48) = [c] := by
      show Lib.decDigits _ = _
      rw [Lib.decDigits, dif_pos e2, e1]
    rw [valD_cons, Nat.mul_zero, Nat.zero_add]
    rcases h3 with h3 | h3
    · have : r = [] := by simpa using h3
      subst this
      exact e0
    · have hc : c ≠ 48 := by simpa using h3
      have hp : 0 < c.toNat - 48 := by
        have h4 := h1.1
        unfold isDig at h4
        simp only [Bool.and_eq_true, decide_eq_true_eq] at h4
        have : c.toNat ≠ 48 := fun e => hc (by have := congrArg UInt8.ofNat e; simpa using this)
        omega
      rw [dec_of_digits r _ hp h1.2, e0]
      rfl

theorem decF_ne (n : Nat) : decF n ≠ [] := dec_ne n

theorem decF_head : ∀ n : Nat, 0 < n → (decF n).head? ≠ some 48 := by
  intro n
  induction n using Nat.strongRecOn with
  | _ n ih =>
    intro hn
    show (Lib.decDigits n).head? ≠ some 48
    rw [Lib.decDigits]
    split
    · rename_i h
      intro e
      have h1 : UInt8.ofNat (48 + n) = 48 := by simpa using e
      have h2 := congrArg UInt8.toNat h1
      rw [UInt8.toNat_ofNat_of_lt' (by simp [UInt8.size]; omega)] at h2
      have : (48 : UInt8).toNat = 48 := by decide
      omega
    · rename_i h
      have h1 := ih (n / 10) (by omega) (by omega)
      have h2 := decF_ne (n / 10)
      cases h3 : Lib.decDigits (n / 10) with
      | nil => exact absurd h3 h2
      | cons b r =>
        have h4 : (decF (n / 10)).head? = some b := by show (Lib.decDigits (n / 10)).head? = _; rw [h3]; rfl
        rw [h4] at h1
        simpa using h1

theorem canon_decF (n : Nat) : canon (decF n) = true := by
  unfold canon
  simp only [Bool.and_eq_true, decide_eq_true_eq, Bool.or_eq_true, List.all_eq_true]
  refine ⟨⟨fun x hx => ?_, decF_ne n⟩, ?_⟩
  · have := dec_digit n x hx
    simp [isDig, this.1, this.2]
  · rcases Nat.eq_zero_or_pos n with rfl | h
    · left
      show (Lib.decDigits 0).length = 1
      rw [Lib.decDigits, dif_pos (by omega)]
      rfl
    · exact .inr (decF_head n h)

theorem decF_inj {m n : Nat} (h : decF m = decF n) : m = n := by
  have h1 := dec_digits m
  have h2 := dec_digits n
  have h' : Lib.decDigits m = Lib.decDigits n := h
  rw [h', h2] at h1
  cases h1; rfl

theorem valD_decF (n : Nat) : valD 0 (decF n) = n := decF_inj (canon_dec (canon_decF n))

theorem decF_len : ∀ (k n : Nat), n < 10 ^ (k + 1) → (decF n).length ≤ k + 1
  | 0, n, h => by
    show (Lib.decDigits n).length ≤ 1
    rw [Lib.decDigits, dif_pos (by omega)]
    simp
  | k + 1, n, h => by
    show (Lib.decDigits n).length ≤ k + 1 + 1
    rw [Lib.decDigits]
    split
    · simp
    · have := decF_len k (n / 10) (by rw [Nat.pow_succ] at h; omega)
      have h2 : (Lib.decDigits (n / 10)).length ≤ k + 1 := this
      simp
      omega

theorem decF_cr (n : Nat) : ∀ x ∈ decF n, x ≠ 13 := fun x hx e => by
  have := dec_digit n x hx
  rw [e] at this
  exact absurd this.1 (by decide)

/-- The document's 'decimal': digits without noughts ahead, 19 of them at most. -/
def decR (s : List UInt8) : Option Nat := if canon s = true ∧ s.length ≤ 19 then some (valD 0 s) else none

theorem decR_some {s : List UInt8} {m : Nat} (h : decR s = some m) : decF m = s ∧ s.length ≤ 19 := by
  unfold decR at h
  split at h
  · rename_i hc
    cases h
    exact ⟨canon_dec hc.1, hc.2⟩
  · cases h

theorem decR_decF {n : Nat} (h : (decF n).length ≤ 19) : decR (decF n) = some n := by
  unfold decR
  rw [if_pos ⟨canon_decF n, h⟩, valD_decF]

/-- The document's 'small'. -/
def smallR (s : List UInt8) : Option Nat := (decR s).bind fun n => if n ≤ 1099511627776 then some n else none

theorem smallR_decF {n : Nat} (h : n ≤ 1099511627776) : smallR (decF n) = some n := by
  unfold smallR
  rw [decR_decF (decF_len 18 n (by omega))]
  simp [h]

/-- The document's 'until'. -/
def untilR (s x : List UInt8) : Option (List UInt8 × List UInt8) := match cut s x with
  | (a, b, true) => some (a, b)
  | (_, _, false) => none

def listedF : Nat → Nat → List UInt8 → Option (List Int)
  | 0, _, _ => none
  | k + 1, c, s => match untilR s [44] with
    | none => match smallR s with
      | some n => if c ≤ 20000 then some [(n : Int)] else none
      | none => none
    | some (a, rest) => match smallR a with
      | some n => if c ≤ 20000 then (listedF k (c + 1) rest).map ((n : Int) :: ·) else none
      | none => none
def listedR (s : List UInt8) : Option (List Int) := listedF (s.length + 1) 0 s

def uploadR (how s : List UInt8) : Option OpD :=
  if s.length < 16 then none else match unhex (s.take 16) with
  | none => none
  | some u =>
    if how = ([68, 69, 76, 69, 84, 69] : List UInt8) ∧ s.drop 16 = [] then some { opZero with upload := u, kind := 10 }
    else if how = ([80, 85, 84] : List UInt8) ∧ 6 < (s.drop 16).length ∧ (s.drop 16).take 6 = [38, 112, 97, 114, 116, 61] then (smallR ((s.drop 16).drop 6)).map fun (n : Nat) => { opZero with upload := u, kind := 8, n := (n : Int) }
    else if how = ([80, 79, 83, 84] : List UInt8) ∧ 7 < (s.drop 16).length ∧ (s.drop 16).take 7 = [38, 112, 97, 114, 116, 115, 61] then (listedR ((s.drop 16).drop 7)).map fun l => { opZero with upload := u, kind := 9, parts := l }
    else none

def listingR (b s : List UInt8) : Option OpD :=
  match untilR (33 :: s) [33, 112, 114, 101, 102, 105, 120, 61] with
  | none => none
  | some (_, s) => match untilR s [38, 97, 102, 116, 101, 114, 61] with
    | none => none
    | some (p, s) => match untilR s [38, 110, 61] with
      | none => none
      | some (a, n) => match unesc p, unesc a, smallR n with
        | some k, some a, some n => some { opZero with kind := 6, bucket := b, key := k, after := a, n := (n : Int) }
        | _, _, _ => none

def targetR (how s : List UInt8) : Option OpD :=
  if 9 < s.length ∧ s.take 9 = [47, 63, 117, 112, 108, 111, 97, 100, 61] then uploadR how (s.drop 9)
  else if s.head? ≠ some 47 then none
  else match (if how = ([71, 69, 84] : List UInt8) then untilR (s.drop 1) [63] else none) with
  | some (b, rest) => listingR b rest
  | none => match untilR (s.drop 1) [47] with
    | none => if how = ([80, 85, 84] : List UInt8) then some { opZero with kind := 1, bucket := s.drop 1 } else if how = ([68, 69, 76, 69, 84, 69] : List UInt8) then some { opZero with kind := 2, bucket := s.drop 1 } else none
    | some (b, rest) => match unesc rest with
      | none => none
      | some k => if kindK how = 0 then none else some { opZero with bucket := b, key := k, kind := kindK how }

def openedR (h : List UInt8) : Option (OpD × List UInt8) :=
  match untilR h [32, 71, 76, 67, 47, 49, 13, 10, 105, 100, 58, 32] with
  | none => none
  | some (first, rest) => match untilR first [32] with
    | none => none
    | some (how, t) => match targetR how t with
      | none => none
      | some o => match untilR rest [13, 10, 108, 101, 110, 103, 116, 104, 58, 32] with
        | none => none
        | some (id, rest) => match untilR rest [13, 10, 13, 10] with
          | none => none
          | some (len, rest) => if rest = [] then (unhex id).map fun u => ({ o with id := u }, len) else none
end Go.Front

/- At the head of a right request the document's reader tells the request. -/
namespace Go.Front
open Go.Lib

theorem until_first {c : UInt8} {tl a r : List UInt8} (h : ∀ x ∈ a, x ≠ c) : untilR (a ++ (c :: tl ++ r)) (c :: tl) = some (a, r) := by
  unfold untilR; rw [cut_first h]
theorem until_none {c : UInt8} {tl a : List UInt8} (h : ∀ x ∈ a, x ≠ c) : untilR a (c :: tl) = none := by
  unfold untilR; rw [cut_none h]

theorem take_app {a r : List UInt8} {k : Nat} (h : a.length = k) : (a ++ r).take k = a := by subst h; exact List.take_left
theorem drop_app {a r : List UInt8} {k : Nat} (h : a.length = k) : (a ++ r).drop k = r := by subst h; exact List.drop_left

theorem listedF_commas : ∀ (l : List Int) (k c : Nat), l ≠ [] → l.length ≤ k → c + l.length ≤ 20001 → (∀ n ∈ l, 0 ≤ n ∧ n ≤ 10000) → listedF k c (commas (l.map fun n => decF n.toNat)) = some l
  | [], _, _, h, _, _, _ => absurd rfl h
  | _ :: _, 0, _, _, h, _, _ => by simp at h
  | [n], k + 1, c, _, _, hc, hb => by
    have hn := hb n (List.mem_cons_self ..)
    have h1 : untilR (decF n.toNat) [44] = none := until_none (c := 44) (tl := []) (fun x hx e => by have := dec_digit _ x hx; rw [e] at this; exact absurd this.1 (by decide))
    show listedF (k + 1) c (decF n.toNat) = _
    rw [listedF, h1]
    dsimp only
    rw [smallR_decF (by omega)]
    simp only [List.length_cons, List.length_nil] at hc
    dsimp only
    rw [if_pos (by omega), show ((n.toNat : Nat) : Int) = n by omega]
  | n :: m :: l, k + 1, c, _, hk, hc, hb => by
    have hn := hb n (List.mem_cons_self ..)
    have h1 : untilR (decF n.toNat ++ (44 :: [] ++ commas ((m :: l).map fun n => decF n.toNat))) [44] = some (decF n.toNat, commas ((m :: l).map fun n => decF n.toNat)) := until_first (c := 44) (tl := []) (fun x hx e => by have := dec_digit _ x hx; rw [e] at this; exact absurd this.1 (by decide))
    show listedF (k + 1) c (decF n.toNat ++ (44 :: [] ++ commas ((m :: l).map fun n => decF n.toNat))) = _
    rw [listedF, h1]
    dsimp only
    rw [smallR_decF (by omega)]
    dsimp only
    simp only [List.length_cons] at hc hk
    rw [if_pos (by omega), listedF_commas (m :: l) k (c + 1) (by simp) (by simp; omega) (by simp; omega) (fun x hx => hb x (List.mem_cons_of_mem _ hx)), show ((n.toNat : Nat) : Int) = n by omega]
    rfl

theorem uploadR_part {u : Nat} {n : Int} (hu : u < 2 ^ 64) (h0 : 0 ≤ n) (h1 : n ≤ 10000) : uploadR [80, 85, 84] (hex16 u ++ ([38, 112, 97, 114, 116, 61] ++ decF n.toNat)) = some { opZero with upload := u, kind := 8, n := n } := by
  have hl : (hex16 u).length = 16 := hexF_len 16 u
  have hd : 0 < (decF n.toNat).length := List.length_pos_iff.2 (decF_ne _)
  unfold uploadR
  rw [if_neg (by simp; omega), take_app hl, drop_app hl, unhex_iff.2 ⟨hu, rfl⟩]
  dsimp only
  rw [if_neg (by simp), if_pos ⟨rfl, by simp; omega, take_app rfl⟩, drop_app (a := [38, 112, 97, 114, 116, 61]) (k := 6) rfl, smallR_decF (by omega)]
  simp only [Option.map_some]
  rw [show ((n.toNat : Nat) : Int) = n by omega]

theorem uploadR_abort {u : Nat} (hu : u < 2 ^ 64) : uploadR [68, 69, 76, 69, 84, 69] (hex16 u ++ []) = some { opZero with upload := u, kind := 10 } := by
  have hl : (hex16 u).length = 16 := hexF_len 16 u
  unfold uploadR
  rw [if_neg (by simp; omega), take_app hl, drop_app hl, unhex_iff.2 ⟨hu, rfl⟩]
  dsimp only
  rw [if_pos ⟨rfl, rfl⟩]

theorem commas_len2 (l : List (List UInt8)) : l.length ≤ (commas l).length + 1 := commas_len l

theorem commas_ne {l : List Int} (h : l ≠ []) : (commas (l.map fun n => decF n.toNat)) ≠ [] := by
  cases l with
  | nil => exact absurd rfl h
  | cons n l =>
    cases l with
    | nil => exact decF_ne _
    | cons m l =>
      show decF n.toNat ++ _ ≠ []
      intro e
      exact decF_ne _ (List.append_eq_nil_iff.1 e).1

theorem uploadR_complete {u : Nat} {l : List Int} (hu : u < 2 ^ 64) (hl : l ≠ []) (hlen : l.length ≤ 10000) (h : ∀ n ∈ l, 0 ≤ n ∧ n ≤ 10000) : uploadR [80, 79, 83, 84] (hex16 u ++ ([38, 112, 97, 114, 116, 115, 61] ++ commas (l.map fun n => decF n.toNat))) = some { opZero with upload := u, kind := 9, parts := l } := by
  have hl16 : (hex16 u).length = 16 := hexF_len 16 u
  have hd : 0 < (commas (l.map fun n => decF n.toNat)).length := List.length_pos_iff.2 (commas_ne hl)
  unfold uploadR
  rw [if_neg (by simp; omega), take_app hl16, drop_app hl16, unhex_iff.2 ⟨hu, rfl⟩]
  dsimp only
  have hlist : listedR (commas (l.map fun n => decF n.toNat)) = some l := by
    unfold listedR
    have := commas_len (l.map fun n => decF n.toNat)
    rw [List.length_map] at this
    exact listedF_commas l _ 0 hl this (by omega) h
  rw [if_neg (by simp), if_neg (by simp), if_pos ⟨rfl, by simp; omega, take_app rfl⟩, drop_app (a := [38, 112, 97, 114, 116, 115, 61]) (k := 7) rfl, hlist]
  rfl

theorem targetR_up {how r : List UInt8} (h : r ≠ []) : targetR how ([47, 63, 117, 112, 108, 111, 97, 100, 61] ++ r) = uploadR how r := by
  unfold targetR
  have hd : 0 < r.length := List.length_pos_iff.2 h
  rw [if_pos ⟨by simp; omega, take_app rfl⟩, drop_app (a := [47, 63, 117, 112, 108, 111, 97, 100, 61]) (k := 9) rfl]

theorem notup {s r : List UInt8} (h : ∀ x ∈ s, nameC x = true) (hs : s ≠ []) : ¬ (9 < (47 :: (s ++ r)).length ∧ (47 :: (s ++ r)).take 9 = [47, 63, 117, 112, 108, 111, 97, 100, 61]) := by
  cases s with
  | nil => exact absurd rfl hs
  | cons c s =>
    have hc : c ≠ 63 := name_ne h (by decide) c (List.mem_cons_self ..)
    rintro ⟨_, e⟩
    simp at e
    exact hc e.1

theorem targetR_bucket {how s : List UInt8} (h : ∀ x ∈ s, nameC x = true) (hs : s ≠ []) (hg : how = [80, 85, 84] ∨ how = [68, 69, 76, 69, 84, 69]) : targetR how (47 :: s) = some { opZero with bucket := s, kind := kindB how } := by
  unfold targetR
  have h0 := notup (r := []) h hs
  rw [List.append_nil] at h0
  rw [if_neg h0, if_neg (by simp), if_neg (by rcases hg with rfl | rfl <;> decide)]
  dsimp only
  rw [show (47 :: s).drop 1 = s from rfl, until_none (c := 47) (tl := []) (name_ne h (by decide))]
  dsimp only
  rcases hg with rfl | rfl <;> rfl

theorem targetR_key {how s k : List UInt8} (h : ∀ x ∈ s, nameC x = true) (hs : s ≠ []) (hk : kindK how ≠ 0) : targetR how (47 :: (s ++ (47 :: esc k))) = some { opZero with bucket := s, key := k, kind := kindK how } := by
  unfold targetR
  have hq : untilR (s ++ (47 :: esc k)) [63] = none := by
    refine until_none (c := 63) (tl := []) (app_ne (name_ne h (by decide)) (fun x hx => ?_))
    rcases List.mem_cons.1 hx with rfl | hx
    · decide
    · exact ne_of_esc (by decide) x hx
  rw [if_neg (notup h hs), if_neg (by simp), show (47 :: (s ++ (47 :: esc k))).drop 1 = s ++ (47 :: esc k) from rfl, hq]
  have hif : (if how = ([71, 69, 84] : List UInt8) then (none : Option (List UInt8 × List UInt8)) else none) = none := by split <;> rfl
  rw [hif]
  dsimp only
  have h2 : untilR (s ++ (47 :: esc k)) [47] = some (s, esc k) := until_first (c := 47) (tl := []) (name_ne h (by decide))
  rw [h2]
  dsimp only
  rw [unesc_iff.2 rfl]
  dsimp only
  rw [if_neg hk]

theorem targetR_list {s k a : List UInt8} {n : Int} (h : ∀ x ∈ s, nameC x = true) (hs : s ≠ []) (h0 : 0 ≤ n) (h1 : n ≤ 1000) :
    targetR [71, 69, 84] (47 :: (s ++ ([63, 112, 114, 101, 102, 105, 120, 61] ++ (esc k ++ ([38, 97, 102, 116, 101, 114, 61] ++ (esc a ++ ([38, 110, 61] ++ decF n.toNat))))))) = some { opZero with kind := 6, bucket := s, key := k, after := a, n := n } := by
  have e2 : untilR (s ++ ([63, 112, 114, 101, 102, 105, 120, 61] ++ (esc k ++ ([38, 97, 102, 116, 101, 114, 61] ++ (esc a ++ ([38, 110, 61] ++ decF n.toNat)))))) [63] = some (s, [112, 114, 101, 102, 105, 120, 61] ++ (esc k ++ ([38, 97, 102, 116, 101, 114, 61] ++ (esc a ++ ([38, 110, 61] ++ decF n.toNat))))) := until_first (c := 63) (tl := []) (name_ne h (by decide))
  have e3 : untilR (33 :: ([112, 114, 101, 102, 105, 120, 61] ++ (esc k ++ ([38, 97, 102, 116, 101, 114, 61] ++ (esc a ++ ([38, 110, 61] ++ decF n.toNat)))))) [33, 112, 114, 101, 102, 105, 120, 61] = some ([], esc k ++ ([38, 97, 102, 116, 101, 114, 61] ++ (esc a ++ ([38, 110, 61] ++ decF n.toNat)))) := until_first (a := []) (c := 33) (tl := [112, 114, 101, 102, 105, 120, 61]) (fun x hx => by cases hx)
  have e4 : untilR (esc k ++ ([38, 97, 102, 116, 101, 114, 61] ++ (esc a ++ ([38, 110, 61] ++ decF n.toNat)))) [38, 97, 102, 116, 101, 114, 61] = some (esc k, esc a ++ ([38, 110, 61] ++ decF n.toNat)) := until_first (c := 38) (tl := [97, 102, 116, 101, 114, 61]) (ne_of_esc (s := k) (by decide))
  have e5 : untilR (esc a ++ ([38, 110, 61] ++ decF n.toNat)) [38, 110, 61] = some (esc a, decF n.toNat) := until_first (c := 38) (tl := [110, 61]) (ne_of_esc (s := a) (by decide))
  unfold targetR
  rw [if_neg (notup h hs), if_neg (by simp), if_pos rfl]
  rw [show ∀ t : List UInt8, (47 :: t).drop 1 = t from fun t => rfl, e2]
  dsimp only
  unfold listingR
  rw [e3]
  dsimp only
  rw [e4]
  dsimp only
  rw [e5]
  dsimp only
  rw [unesc_iff.2 rfl, unesc_iff.2 rfl, smallR_decF (by omega)]
  dsimp only
  rw [show ((n.toNat : Nat) : Int) = n by omega]

theorem targetR_right {o : OpD} (h : right o = true) (hu : o.upload < 2 ^ 64) : targetR (methodD o.kind) (targetD o) = some (bare o) := by
  obtain ⟨id, kind, bucket, key, after, n, upload, parts, data⟩ := o
  unfold right at h
  dsimp only at h hu ⊢
  by_cases k1 : kind = 1 ∨ kind = 2
  · rw [if_pos k1] at h
    simp only [Bool.and_eq_true, decide_eq_true_eq] at h
    obtain ⟨⟨⟨⟨⟨⟨hn, rfl⟩, rfl⟩, rfl⟩, rfl⟩, rfl⟩, rfl⟩ := h
    have hb := right_name (o := ⟨id, kind, bucket, [], [], 0, 0, [], []⟩) hn
    rw [targetD, if_pos k1, targetR_bucket hb.1 hb.2 (by rcases k1 with rfl | rfl <;> decide)]
    rcases k1 with rfl | rfl <;> rfl
  rw [if_neg k1] at h
  by_cases k3 : kind = 3
  · subst k3
    rw [if_pos rfl] at h
    simp only [Bool.and_eq_true, decide_eq_true_eq] at h
    obtain ⟨⟨⟨⟨⟨⟨hn, _⟩, rfl⟩, rfl⟩, rfl⟩, rfl⟩, _⟩ := h
    have hb := right_name (o := ⟨id, 3, bucket, key, [], 0, 0, [], []⟩) hn
    have ht : targetD ⟨id, 3, bucket, key, [], 0, 0, [], data⟩ = 47 :: (bucket ++ (47 :: esc key)) := rfl
    rw [ht, targetR_key hb.1 hb.2 (by decide)]
    rfl
  rw [if_neg k3] at h
  by_cases k4 : kind = 4 ∨ kind = 5 ∨ kind = 7
  · rw [if_pos k4] at h
    simp only [Bool.and_eq_true, decide_eq_true_eq] at h
    obtain ⟨⟨⟨⟨⟨⟨hn, _⟩, rfl⟩, rfl⟩, rfl⟩, rfl⟩, rfl⟩ := h
    have hb := right_name (o := ⟨id, 3, bucket, key, [], 0, 0, [], []⟩) hn
    have ht : targetD ⟨id, kind, bucket, key, [], 0, 0, [], []⟩ = 47 :: (bucket ++ (47 :: esc key)) := by rcases k4 with rfl | rfl | rfl <;> rfl
    rw [ht, targetR_key hb.1 hb.2 (by rcases k4 with rfl | rfl | rfl <;> decide)]
    rcases k4 with rfl | rfl | rfl <;> rfl
  rw [if_neg k4] at h
  by_cases k6 : kind = 6
  · subst k6
    rw [if_pos rfl] at h
    simp only [Bool.and_eq_true, decide_eq_true_eq] at h
    obtain ⟨⟨⟨⟨⟨⟨⟨hn, _⟩, _⟩, h0⟩, h1⟩, rfl⟩, rfl⟩, rfl⟩ := h
    have hb := right_name (o := ⟨id, 3, bucket, key, [], 0, 0, [], []⟩) hn
    have ht : targetD ⟨id, 6, bucket, key, after, n, 0, [], []⟩ = 47 :: (bucket ++ ([63, 112, 114, 101, 102, 105, 120, 61] ++ (esc key ++ ([38, 97, 102, 116, 101, 114, 61] ++ (esc after ++ ([38, 110, 61] ++ decF n.toNat)))))) := rfl
    have hm : methodD 6 = [71, 69, 84] := rfl
    rw [ht, hm, targetR_list hb.1 hb.2 (by omega) (by omega)]
    rfl
  rw [if_neg k6] at h
  by_cases k8 : kind = 8
  · subst k8
    rw [if_pos rfl] at h
    simp only [Bool.and_eq_true, decide_eq_true_eq] at h
    obtain ⟨⟨⟨⟨⟨⟨rfl, rfl⟩, rfl⟩, h0⟩, h1⟩, rfl⟩, _⟩ := h
    have ht : targetD ⟨id, 8, [], [], [], n, upload, [], data⟩ = [47, 63, 117, 112, 108, 111, 97, 100, 61] ++ (hex16 upload ++ ([38, 112, 97, 114, 116, 61] ++ decF n.toNat)) := rfl
    rw [ht, targetR_up (by simp)]
    exact uploadR_part hu (by omega) (by omega)
  rw [if_neg k8] at h
  by_cases k9 : kind = 9
  · subst k9
    rw [if_pos rfl] at h
    simp only [Bool.and_eq_true, decide_eq_true_eq] at h
    obtain ⟨⟨⟨⟨⟨rfl, rfl⟩, rfl⟩, rfl⟩, hp⟩, rfl⟩ := h
    unfold partsB at hp
    simp only [Bool.and_eq_true, decide_eq_true_eq] at hp
    have ht : targetD ⟨id, 9, [], [], [], 0, upload, parts, []⟩ = [47, 63, 117, 112, 108, 111, 97, 100, 61] ++ (hex16 upload ++ ([38, 112, 97, 114, 116, 115, 61] ++ commas (parts.map fun n => decF n.toNat))) := rfl
    rw [ht, targetR_up (by simp)]
    exact uploadR_complete hu (fun e => by rw [e] at hp; simp at hp) hp.1.2 (fun m hm => rising_le parts 0 (by omega) hp.2 m hm)
  rw [if_neg k9] at h
  by_cases k10 : kind = 10
  · subst k10
    rw [if_pos rfl] at h
    simp only [Bool.and_eq_true, decide_eq_true_eq] at h
    obtain ⟨⟨⟨⟨⟨rfl, rfl⟩, rfl⟩, rfl⟩, rfl⟩, rfl⟩ := h
    have ht : targetD ⟨id, 10, [], [], [], 0, upload, [], []⟩ = [47, 63, 117, 112, 108, 111, 97, 100, 61] ++ (hex16 upload ++ []) := rfl
    have hl : (hex16 upload).length = 16 := hexF_len 16 upload
    rw [ht, targetR_up (fun e => by rw [List.append_nil] at e; rw [e] at hl; simp at hl)]
    exact uploadR_abort hu
  · rw [if_neg k10] at h
    cases h

/-- A blank that is not followed so: on. -/
theorem until_skip {c d x : UInt8} {tl a r : List UInt8} {b q : List UInt8} (h : x ≠ d) (ha : ∀ y ∈ a, y ≠ c) (hr : untilR (x :: r) (c :: d :: tl) = some (b, q)) : untilR (a ++ (c :: x :: r)) (c :: d :: tl) = some (a ++ (c :: b), q) := by
  have hi := index_on (c := c) (d := d) (x := x) (tl := tl) (r := r) h
  have h0 := index_ge (x :: r) (c :: d :: tl)
  unfold untilR cut at hr ⊢
  by_cases hn : 0 ≤ index (x :: r) (c :: d :: tl)
  · rw [if_pos hn] at hr
    rw [if_neg (by omega)] at hi
    have hj := index_app (c := c) (tl := d :: tl) (a := a) (r := c :: x :: r) ha
    rw [hi, if_neg (by omega)] at hj
    obtain ⟨m, hm⟩ : ∃ m : Nat, index (x :: r) (c :: d :: tl) = m := ⟨(index (x :: r) (c :: d :: tl)).toNat, by omega⟩
    rw [hm] at hj hr
    rw [hj, if_pos (by omega)]
    simp only [Int.toNat_natCast, Option.some.injEq, Prod.mk.injEq] at hr ⊢
    have ht : ((a.length : Int) + ((m : Int) + 1)).toNat = a.length + (m + 1) := by omega
    rw [ht]
    refine ⟨?_, ?_⟩
    · rw [← hr.1, List.take_length_add_append, List.take_succ_cons]
    · rw [← hr.2, show a.length + (m + 1) + (c :: d :: tl).length = a.length + (m + 1 + (c :: d :: tl).length) by omega, List.drop_length_add_append, show m + 1 + (c :: d :: tl).length = (m + (c :: d :: tl).length) + 1 by omega, List.drop_succ_cons]
  · rw [if_neg hn] at hr
    cases hr

theorem target_cons (o : OpD) : ∃ r, targetD o = 47 :: r := by
  unfold targetD
  split
  · exact ⟨_, rfl⟩
  split
  · exact ⟨_, rfl⟩
  split
  · exact ⟨_, rfl⟩
  split
  · exact ⟨_, rfl⟩
  split
  · exact ⟨_, rfl⟩
  · exact ⟨_, rfl⟩

/-- The document's reader tells a right request at its head. -/
theorem openedR_right {o : OpD} {len : List UInt8} (h : right o = true) (hu : o.upload < 2 ^ 64) (hi : o.id < 2 ^ 64) (hl : ∀ x ∈ len, x ≠ 13) : openedR (headD o len) = some ({ bare o with id := o.id }, len) := by
  obtain ⟨t, ht⟩ := target_cons o
  have hb := tg_ne (target_bytes h) (d := 32) (by decide)
  have e0 : headD o len = methodD o.kind ++ (32 :: 47 :: (t ++ (32 :: [71, 76, 67, 47, 49, 13, 10, 105, 100, 58, 32] ++ (hex16 o.id ++ (13 :: [10, 108, 101, 110, 103, 116, 104, 58, 32] ++ (len ++ [13, 10, 13, 10])))))) := by
    simp [headD, headL, line0, line1, line2, ht]
  have e1 : untilR (47 :: (t ++ (32 :: [71, 76, 67, 47, 49, 13, 10, 105, 100, 58, 32] ++ (hex16 o.id ++ (13 :: [10, 108, 101, 110, 103, 116, 104, 58, 32] ++ (len ++ [13, 10, 13, 10])))))) [32, 71, 76, 67, 47, 49, 13, 10, 105, 100, 58, 32] = some (47 :: t, hex16 o.id ++ (13 :: [10, 108, 101, 110, 103, 116, 104, 58, 32] ++ (len ++ [13, 10, 13, 10]))) := by
    have := until_first (c := 32) (tl := [71, 76, 67, 47, 49, 13, 10, 105, 100, 58, 32]) (a := 47 :: t) (r := hex16 o.id ++ (13 :: [10, 108, 101, 110, 103, 116, 104, 58, 32] ++ (len ++ [13, 10, 13, 10]))) (by rw [← ht]; exact hb)
    exact this
  have e2 := until_skip (c := 32) (d := 71) (x := 47) (tl := [76, 67, 47, 49, 13, 10, 105, 100, 58, 32]) (a := methodD o.kind) (by decide) (tg_ne (method_bytes _) (by decide)) e1
  have e3 : untilR (methodD o.kind ++ (32 :: (47 :: t))) [32] = some (methodD o.kind, 47 :: t) := until_first (c := 32) (tl := []) (tg_ne (method_bytes _) (by decide))
  have e4 : untilR (hex16 o.id ++ (13 :: [10, 108, 101, 110, 103, 116, 104, 58, 32] ++ (len ++ [13, 10, 13, 10]))) [13, 10, 108, 101, 110, 103, 116, 104, 58, 32] = some (hex16 o.id, len ++ [13, 10, 13, 10]) := until_first (c := 13) (tl := [10, 108, 101, 110, 103, 116, 104, 58, 32]) (tg_ne hex_tg (by decide))
  have e5 : untilR (len ++ [13, 10, 13, 10]) [13, 10, 13, 10] = some (len, []) := by
    have := until_first (c := 13) (tl := [10, 13, 10]) (a := len) (r := []) hl
    exact this
  unfold openedR
  rw [e0, e2]
  dsimp only
  rw [e3]
  dsimp only
  rw [← ht, targetR_right h hu]
  dsimp only
  rw [e4]
  dsimp only
  rw [e5]
  dsimp only
  rw [if_pos rfl, unhex_iff.2 ⟨hi, rfl⟩]
  rfl
end Go.Front

/- Both readers of a request, as plain functions, tell the same. -/
namespace Go.Front
open Go.Lib

/-- 'large': digits of a number above what an object may have. -/
def largeB (s : List UInt8) : Bool := match decR s with | some m => decide (16777216 < m) | none => false

def cutAt (b : List UInt8) : Int := index (b.take 65536) crlf2

/-- The program's reader. -/
def parseP (b : List UInt8) : OpD × Nat :=
  if cutAt b = -1 then (opZero, if 65536 < b.length then 413 else 400)
  else match headP (b.take (cutAt b).toNat) with
  | none => (opZero, 400)
  | some (o, len) =>
    if right o = true then
      if (o.kind = 3 ∨ o.kind = 8) ∧ largeB len = true then
        if headD o (decF 0) = b.take ((cutAt b).toNat - len.length) ++ ([48] ++ crlf2) then (opZero, 413) else (opZero, 400)
      else if printD { o with data := b.drop ((cutAt b).toNat + 4) } = some b then ({ o with data := b.drop ((cutAt b).toNat + 4) }, 200) else (opZero, 400)
    else (opZero, 400)

/-- The document's reader. -/
def parseR (b : List UInt8) : OpD × Nat :=
  if cutAt b = -1 then (opZero, if 65536 < b.length then 413 else 400)
  else match openedR (b.take ((cutAt b).toNat + 4)) with
  | none => (opZero, 400)
  | some (o, len) =>
    if headD o len = b.take ((cutAt b).toNat + 4) then
      match decR len with
      | none => (opZero, 400)
      | some m =>
        if 16777216 < m then (if (o.kind = 3 ∨ o.kind = 8) ∧ right o = true then (opZero, 413) else (opZero, 400))
        else if m = b.length - ((cutAt b).toNat + 4) then
          if right { o with data := b.drop ((cutAt b).toNat + 4) } = true then ({ o with data := b.drop ((cutAt b).toNat + 4) }, 200) else (opZero, 400)
        else (opZero, 400)
    else (opZero, 400)

/-- An operation without a body. -/
structure Bare (o : OpD) : Prop where
  data : o.data = []
  id : o.id < 2 ^ 64
  up : o.upload < 2 ^ 64

theorem bare_with {o : OpD} (h : Bare o) : ({ bare o with id := o.id } : OpD) = o := by
  obtain ⟨a, b, c, d, e, f, g, p, q⟩ := o
  have := h.data
  subst this
  rfl

theorem right_bare {o : OpD} (h : right o = true) : right { o with data := [] } = true := by
  obtain ⟨id, kind, bucket, key, after, n, upload, parts, data⟩ := o
  unfold right at h ⊢
  dsimp only at h ⊢
  repeat' split at h
  all_goals simp_all

/-- A body that its kind may have. -/
theorem right_data {o : OpD} (h : right o = true) : (o.kind = 3 ∨ o.kind = 8) ∨ o.data = [] := by
  obtain ⟨id, kind, bucket, key, after, n, upload, parts, data⟩ := o
  unfold right at h
  dsimp only at h ⊢
  repeat' split at h
  all_goals simp_all

theorem right_len {o : OpD} (h : right o = true) : o.data.length ≤ 16777216 := by
  obtain ⟨id, kind, bucket, key, after, n, upload, parts, data⟩ := o
  unfold right at h
  dsimp only at h ⊢
  repeat' split at h
  all_goals simp_all

theorem headL_data (o : OpD) (d : List UInt8) (len : List UInt8) : headL { o with data := d } len = headL o len := rfl
theorem headD_data (o : OpD) (d : List UInt8) (len : List UInt8) : headD { o with data := d } len = headD o len := rfl

theorem digits_cr {s : List UInt8} {m : Nat} (h : decR s = some m) : ∀ x ∈ s, x ≠ 13 := by
  rw [← (decR_some h).1]; exact decF_cr m

/-- What the program's reader tells of uploads, targets, heads is bare. -/
theorem uploadP_bare {how s : List UInt8} {o : OpD} (h : uploadP how s = some o) : o.data = [] ∧ o.upload < 2 ^ 64 ∧ o.id = 0 := by
  unfold uploadP at h
  dsimp only at h
  split at h
  · cases h
  · rename_i u hu
    have h64 := (unhex_iff.1 hu).1
    generalize (if how = ([80, 85, 84] : List UInt8) then cutP (if 16 < s.length then s.drop 16 else []) [38, 112, 97, 114, 116, 61] else none) = q1 at h
    generalize (if how = ([80, 79, 83, 84] : List UInt8) then cutP (if 16 < s.length then s.drop 16 else []) [38, 112, 97, 114, 116, 115, 61] else none) = q2 at h
    cases q1 with
    | some p =>
      obtain ⟨n, _, rfl⟩ := Option.map_eq_some_iff.1 h
      exact ⟨rfl, h64, rfl⟩
    | none =>
      cases q2 with
      | some p =>
        obtain ⟨n, _, rfl⟩ := Option.map_eq_some_iff.1 h
        exact ⟨rfl, h64, rfl⟩
      | none =>
        dsimp only at h
        generalize (if 16 < s.length then s.drop 16 else []) = rest at h
        split at h
        · cases h; exact ⟨rfl, h64, rfl⟩
        · cases h

theorem targetP_bare {how s : List UInt8} {o : OpD} (h : targetP how s = some o) : o.data = [] ∧ o.upload < 2 ^ 64 ∧ o.id = 0 := by
  unfold targetP at h
  split at h
  · exact uploadP_bare h
  · split at h
    · cases h
    · split at h
      rename_i name key is _
      split at h
      · obtain ⟨k, _, rfl⟩ := Option.map_eq_some_iff.1 h
        exact ⟨rfl, (by show (0 : Nat) < _; decide), rfl⟩
      · split at h
        · split at h
          · cases h
          · split at h
            · cases h
            · split at h
              · cases h; exact ⟨rfl, (by show (0 : Nat) < _; decide), rfl⟩
              · cases h
        · cases h; exact ⟨rfl, (by show (0 : Nat) < _; decide), rfl⟩

theorem splitK_last (sep : List UInt8) : ∀ (k : Nat) (s : List UInt8), splitK sep 0 k s ≠ [] ∧ ∀ x, (splitK sep 0 k s).getLast? = some x → ∃ p, s = p ++ x
  | 0, s => by
    rw [splitK]
    exact ⟨by simp, fun x hx => ⟨[], by simpa using hx⟩⟩
  | k + 1, s => by
    rw [splitK]
    split
    · exact ⟨by simp, fun x hx => ⟨[], by simpa using hx⟩⟩
    · obtain ⟨h1, h2⟩ := splitK_last sep k (s.drop ((index s sep).toNat + sep.length))
      refine ⟨by simp, fun x hx => ?_⟩
      rw [List.getLast?_cons_of_ne_nil h1] at hx
      obtain ⟨p, hp⟩ := h2 x hx
      exact ⟨s.take ((index s sep).toNat + sep.length) ++ p, by rw [List.append_assoc, ← hp, List.take_append_drop]⟩

theorem cutP_some {s p r : List UInt8} (h : cutP s p = some r) : s = p ++ r := by
  unfold cutP hasPrefix at h
  split at h
  · rename_i hp
    cases h
    obtain ⟨t, ht⟩ := List.isPrefixOf_iff_prefix.1 hp
    rw [← ht, List.drop_left]
  · cases h

theorem headP_bare {s : List UInt8} {o : OpD} {len : List UInt8} (h : headP s = some (o, len)) : Bare o ∧ ∃ p, s = p ++ len := by
  unfold headP at h
  split at h
  · rename_i l0 l1 l2 hs
    split at h
    · rename_i w0 w1 w2 hw
      split at h
      · split at h
        · rename_i o' id size ht hid hsz
          obtain ⟨u, hu, he⟩ := Option.map_eq_some_iff.1 h
          cases he
          obtain ⟨h1, h2, h3⟩ := targetP_bare ht
          refine ⟨⟨h1, (unhex_iff.1 hu).1, h2⟩, ?_⟩
          have := (splitK_last [13, 10] (Lib.count s [13, 10]) s).2 l2 (by
            have : splitK [13, 10] 0 (Lib.count s [13, 10]) s = [l0, l1, l2] := hs
            rw [this]; rfl)
          obtain ⟨p, hp⟩ := this
          exact ⟨p ++ [108, 101, 110, 103, 116, 104, 58, 32], by rw [hp, cutP_some hsz]; simp⟩
        · cases h
      · cases h
    · cases h
  · cases h

theorem uploadR_bare {how s : List UInt8} {o : OpD} (h : uploadR how s = some o) : o.data = [] ∧ o.upload < 2 ^ 64 ∧ o.id = 0 := by
  unfold uploadR at h
  split at h
  · cases h
  · split at h
    · cases h
    · rename_i u hu
      have h64 := (unhex_iff.1 hu).1
      split at h
      · cases h; exact ⟨rfl, h64, rfl⟩
      · split at h
        · obtain ⟨n, _, rfl⟩ := Option.map_eq_some_iff.1 h
          exact ⟨rfl, h64, rfl⟩
        · split at h
          · obtain ⟨n, _, rfl⟩ := Option.map_eq_some_iff.1 h
            exact ⟨rfl, h64, rfl⟩
          · cases h

theorem listingR_bare {b s : List UInt8} {o : OpD} (h : listingR b s = some o) : o.data = [] ∧ o.upload < 2 ^ 64 ∧ o.id = 0 := by
  unfold listingR at h
  split at h
  · cases h
  · split at h
    · cases h
    · split at h
      · cases h
      · split at h
        · cases h; exact ⟨rfl, (by show (0 : Nat) < _; decide), rfl⟩
        · cases h

theorem targetR_bare {how s : List UInt8} {o : OpD} (h : targetR how s = some o) : o.data = [] ∧ o.upload < 2 ^ 64 ∧ o.id = 0 := by
  unfold targetR at h
  split at h
  · exact uploadR_bare h
  · split at h
    · cases h
    · split at h
      · exact listingR_bare h
      · split at h
        · split at h
          · cases h; exact ⟨rfl, (by show (0 : Nat) < _; decide), rfl⟩
          · split at h
            · cases h; exact ⟨rfl, (by show (0 : Nat) < _; decide), rfl⟩
            · cases h
        · split at h
          · cases h
          · split at h
            · cases h
            · cases h; exact ⟨rfl, (by show (0 : Nat) < _; decide), rfl⟩

theorem openedR_bare {s : List UInt8} {o : OpD} {len : List UInt8} (h : openedR s = some (o, len)) : Bare o := by
  unfold openedR at h
  split at h
  · cases h
  · split at h
    · cases h
    · split at h
      · cases h
      · rename_i o' ht
        split at h
        · cases h
        · split at h
          · cases h
          · split at h
            · obtain ⟨u, hu, he⟩ := Option.map_eq_some_iff.1 h
              cases he
              obtain ⟨h1, h2, h3⟩ := targetR_bare ht
              exact ⟨h1, (unhex_iff.1 hu).1, h2⟩
            · cases h

/-- Where the end of the head stands. -/
theorem cut_parts {b : List UInt8} (h : cutAt b ≠ -1) : ∃ (hd tl : List UInt8), b = hd ++ crlf2 ++ tl ∧ (cutAt b).toNat = hd.length ∧ hd.length + 4 ≤ 65536 := by
  unfold cutAt at h ⊢
  have h0 := index_ge (b.take 65536) crlf2
  rcases index_spec (b.take 65536) crlf2 with ⟨h1, _⟩ | ⟨i, h1, h2, h3, _⟩
  · exact absurd h1 h
  · rw [h1]
    have hroom := index_room (b.take 65536) crlf2 (by omega)
    rw [h1] at hroom
    have h4 : i + 4 ≤ (b.take 65536).length := by
      have : crlf2.length = 4 := rfl
      omega
    rw [List.length_take] at h4
    unfold occAt at h3
    obtain ⟨t, ht⟩ := List.isPrefixOf_iff_prefix.1 h3
    have hb : b = b.take 65536 ++ b.drop 65536 := (List.take_append_drop ..).symm
    refine ⟨b.take i, t ++ b.drop 65536, ?_, by simp; omega, by simp; omega⟩
    have e1 : b.take 65536 = b.take i ++ (crlf2 ++ t) := by
      rw [ht]
      have := (List.take_append_drop i (b.take 65536)).symm
      rw [List.take_take, Nat.min_eq_left (by omega)] at this
      exact this
    conv => lhs; rw [hb, e1]
    simp

theorem len_dec {n : Nat} (h : n ≤ 16777216) : (decF n).length ≤ 8 := decF_len 7 n (by omega)

/-- The two heads of one text are one. -/
theorem heads_one {o : OpD} {len hd : List UInt8} (hr : right o = true) (hb : Bare o) (hl : ∀ x ∈ len, x ≠ 13) (he : hd = headL o len) : headP hd = some (o, len) ∧ openedR (hd ++ crlf2) = some (o, len) := by
  subst he
  have h1 := headP_right hr hb.up hb.id hl
  have h2 := openedR_right hr hb.up hb.id hl
  rw [bare_with hb] at h1 h2
  exact ⟨h1, h2⟩

theorem large_iff {len : List UInt8} : largeB len = true ↔ ∃ m, decR len = some m ∧ 16777216 < m := by
  unfold largeB
  cases h : decR len with
  | none => simp
  | some m => simp

theorem printD_iff {o : OpD} {hd tl : List UInt8} : (printD { o with data := tl } = some (hd ++ crlf2 ++ tl)) ↔ right { o with data := tl } = true ∧ hd = headL o (decF tl.length) := by
  unfold printD
  by_cases hr : right { o with data := tl } = true
  · rw [if_pos hr]
    simp only [Option.some.injEq, hr, true_and]
    rw [headD_data, headD]
    constructor
    · intro h
      have h' := List.append_cancel_right h
      exact (List.append_cancel_right h').symm
    · rintro rfl; rfl
  · rw [if_neg hr]
    simp [hr]

theorem parse_same (b : List UInt8) : parseP b = parseR b := by
  unfold parseP parseR
  by_cases hc : cutAt b = -1
  · rw [if_pos hc, if_pos hc]
  rw [if_neg hc, if_neg hc]
  obtain ⟨hd, tl, hb, hat, h64⟩ := cut_parts hc
  rw [hat]
  have t1 : b.take hd.length = hd := by rw [hb, List.append_assoc]; exact List.take_left
  have t2 : b.take (hd.length + 4) = hd ++ crlf2 := by rw [hb]; exact take_app (by simp)
  have t3 : b.drop (hd.length + 4) = tl := by rw [hb]; exact drop_app (by simp)
  have t4 : b.length - (hd.length + 4) = tl.length := by rw [hb]; simp; omega
  rw [t1, t2, t3, t4]
  by_cases hex : ∃ o len, right o = true ∧ Bare o ∧ (∀ x ∈ len, x ≠ 13) ∧ hd = headL o len
  · obtain ⟨o, len, hr, hbo, hl, he⟩ := hex
    obtain ⟨e1, e2⟩ := heads_one hr hbo hl he
    rw [e1, e2]
    dsimp only
    rw [if_pos hr, if_pos (show headD o len = hd ++ crlf2 by rw [he]; rfl)]
    have hhd : hd = (line0 o ++ ([13, 10] ++ (line1 o ++ ([13, 10] ++ [108, 101, 110, 103, 116, 104, 58, 32])))) ++ len := by rw [he]; simp [headL, line2]
    have hcut : headD o (decF 0) = b.take (hd.length - len.length) ++ ([48] ++ crlf2) := by
      have : b.take (hd.length - len.length) = line0 o ++ ([13, 10] ++ (line1 o ++ ([13, 10] ++ [108, 101, 110, 103, 116, 104, 58, 32]))) := by
        generalize line0 o ++ ([13, 10] ++ (line1 o ++ ([13, 10] ++ [108, 101, 110, 103, 116, 104, 58, 32]))) = P at hhd
        rw [hb, hhd, List.append_assoc, List.append_assoc]
        exact take_app (by simp)
      rw [this]
      have : decF 0 = [48] := by show Lib.decDigits 0 = _; rw [Lib.decDigits, dif_pos (by omega)]; rfl
      rw [this]
      simp [headD, headL, line2]
    by_cases hlg : largeB len = true
    · obtain ⟨m, hm, hm2⟩ := large_iff.1 hlg
      rw [hm]
      dsimp only
      rw [if_pos hm2]
      by_cases hk : o.kind = 3 ∨ o.kind = 8
      · rw [if_pos ⟨hk, hlg⟩, if_pos hcut, if_pos ⟨hk, hr⟩]
      · have hnp : ¬ printD { o with data := tl } = some b := by
          intro hp
          rw [hb] at hp
          obtain ⟨h1, h2⟩ := printD_iff.1 hp
          rcases right_data h1 with h3 | h3
          · exact hk h3
          · have h3' : tl = [] := h3
            subst h3'
            have h4 := heads_one (right_bare h1) ⟨rfl, hbo.id, hbo.up⟩ (decF_cr 0) h2
            rw [e1] at h4
            have h5 : len = decF 0 := by have := h4.1; simp at this; exact this.2
            rw [h5, decR_decF (Nat.le_trans (len_dec (by omega)) (by omega))] at hm
            cases hm
            omega
        rw [if_neg (show ¬ ((o.kind = 3 ∨ o.kind = 8) ∧ largeB len = true) from fun h => hk h.1), if_neg hnp, if_neg (show ¬ ((o.kind = 3 ∨ o.kind = 8) ∧ right o = true) from fun h => hk h.1)]
    · rw [if_neg (fun h => hlg h.2)]
      by_cases hp : printD { o with data := tl } = some b
      · rw [if_pos hp]
        rw [hb] at hp
        obtain ⟨h1, h2⟩ := printD_iff.1 hp
        have h4 := heads_one hr hbo (decF_cr tl.length) h2
        rw [e1] at h4
        have h5 : len = decF tl.length := by have := h4.1; simpa using this
        have h6 := right_len h1
        have h6' : tl.length ≤ 16777216 := h6
        rw [h5, decR_decF (Nat.le_trans (len_dec h6') (by omega))]
        dsimp only
        rw [if_neg (by omega), if_pos rfl, if_pos h1]
      · rw [if_neg hp]
        cases hm : decR len with
        | none => rfl
        | some m =>
          dsimp only
          have hm2 : ¬ 16777216 < m := fun h => hlg (large_iff.2 ⟨m, hm, h⟩)
          rw [if_neg hm2]
          by_cases hmt : m = tl.length
          · rw [if_pos hmt, if_neg]
            intro h1
            apply hp
            rw [hb]
            refine printD_iff.2 ⟨h1, ?_⟩
            rw [he, ← hmt, (decR_some hm).1]
          · rw [if_neg hmt]
  · have hP : (match headP hd with
      | none => (opZero, 400)
      | some (o, len) =>
        if right o = true then
          if (o.kind = 3 ∨ o.kind = 8) ∧ largeB len = true then
            if headD o (decF 0) = b.take (hd.length - len.length) ++ ([48] ++ crlf2) then (opZero, 413) else (opZero, 400)
          else if printD { o with data := tl } = some b then ({ o with data := tl }, 200) else (opZero, 400)
        else (opZero, 400)) = (opZero, 400) := by
      cases hh : headP hd with
      | none => rfl
      | some q =>
        obtain ⟨o, len⟩ := q
        dsimp only
        obtain ⟨hbo, p, hp⟩ := headP_bare hh
        by_cases hr : right o = true
        · rw [if_pos hr]
          by_cases hlg : (o.kind = 3 ∨ o.kind = 8) ∧ largeB len = true
          · rw [if_pos hlg, if_neg]
            intro hcut
            obtain ⟨m, hm, _⟩ := large_iff.1 hlg.2
            refine hex ⟨o, len, hr, hbo, digits_cr hm, ?_⟩
            have h1 : b.take (hd.length - len.length) = p := by
              rw [hb, hp, List.append_assoc, List.append_assoc]
              exact take_app (by simp)
            rw [h1] at hcut
            have h2 : decF 0 = [48] := by show Lib.decDigits 0 = _; rw [Lib.decDigits, dif_pos (by omega)]; rfl
            rw [h2] at hcut
            have h3 : (line0 o ++ ([13, 10] ++ (line1 o ++ ([13, 10] ++ [108, 101, 110, 103, 116, 104, 58, 32])))) ++ ([48] ++ crlf2) = p ++ ([48] ++ crlf2) := by
              rw [← hcut]; simp [headD, headL, line2]
            have h4 := List.append_cancel_right h3
            rw [hp, ← h4]
            simp [headL, line2]
          · rw [if_neg hlg, if_neg]
            intro hpr
            rw [hb] at hpr
            obtain ⟨h1, h2⟩ := printD_iff.1 hpr
            exact hex ⟨o, _, hr, hbo, decF_cr _, h2⟩
        · rw [if_neg hr]
    rw [hP]
    cases hh : openedR (hd ++ crlf2) with
    | none => rfl
    | some q =>
      obtain ⟨o, len⟩ := q
      dsimp only
      have hbo := openedR_bare hh
      by_cases he : headD o len = hd ++ crlf2
      · rw [if_pos he]
        have he' : hd = headL o len := (List.append_cancel_right he).symm
        cases hm : decR len with
        | none => rfl
        | some m =>
          dsimp only
          have hnr : right o ≠ true := fun hr => hex ⟨o, len, hr, hbo, digits_cr hm, he'⟩
          have hnr2 : right { o with data := tl } ≠ true := fun hr => hnr (by
            have := right_bare hr
            have h3 : ({ ({ o with data := tl } : OpD) with data := [] } : OpD) = o := by
              have h4 := hbo.data
              obtain ⟨a, b, c, d, e, f, g, p, q⟩ := o
              cases h4; rfl
            rwa [h3] at this)
          split
          · rw [if_neg (fun h => hnr h.2)]
          · split
            · first | rw [if_neg hnr2] | rfl
            · first | rw [if_neg hnr2] | rfl
      · rw [if_neg he]
end Go.Front

/- What is printed is read; fronts, and bytes behind, are not; unlike requests have unlike bytes. -/
namespace Go.Front
open Go.Lib

structure Wf (o : OpD) : Prop where
  id : o.id < 2 ^ 64
  up : o.upload < 2 ^ 64

theorem esc_len (s : List UInt8) : (esc s).length ≤ 3 * s.length := by
  induction s with
  | nil => simp [esc]
  | cons c s ih =>
    rw [esc_cons, List.length_append, List.length_cons]
    have : (esc1 c).length ≤ 3 := by
      unfold esc1
      split <;> simp
    omega

theorem commas_le : ∀ (l : List (List UInt8)) (k : Nat), (∀ a ∈ l, a.length ≤ k) → (commas l).length ≤ l.length * (k + 1)
  | [], k, _ => by simp [commas]
  | [a], k, h => by have := h a (List.mem_cons_self ..); simp [commas]; omega
  | a :: b :: l, k, h => by
    have h1 := h a (List.mem_cons_self ..)
    have h2 := commas_le (b :: l) k (fun c hc => h c (List.mem_cons_of_mem _ hc))
    rw [commas_two, List.length_append, List.length_append]
    simp only [List.length_cons, List.length_nil] at h2 ⊢
    have h3 : (l.length + 1 + 1) * (k + 1) = (l.length + 1) * (k + 1) + (k + 1) := Nat.succ_mul _ _
    omega

theorem method_len (k : Int) : (methodD k).length ≤ 6 := by
  unfold methodD
  split
  · decide
  split
  · decide
  split <;> decide

theorem target_len {o : OpD} (h : right o = true) : (targetD o).length ≤ 64000 := by
  obtain ⟨id, kind, bucket, key, after, n, upload, parts, data⟩ := o
  have hh : ∀ u, (hex16 u).length = 16 := fun u => hexF_len 16 u
  have hek := esc_len key
  have hea := esc_len after
  have hdec : ∀ m : Nat, m ≤ 10000 → (decF m).length ≤ 5 := fun m hm => decF_len 4 m (by omega)
  unfold right at h
  unfold targetD
  dsimp only at h ⊢
  by_cases k1 : kind = 1 ∨ kind = 2
  · rw [if_pos k1] at h ⊢
    simp only [Bool.and_eq_true, decide_eq_true_eq, nameB] at h
    rw [List.length_cons]; omega
  rw [if_neg k1] at h ⊢
  by_cases k3 : kind = 3
  · subst k3
    simp only [if_true, Bool.and_eq_true, decide_eq_true_eq, nameB, keyB] at h
    simp only [show ¬ (3 : Int) = 6 by decide, show ¬ (3 : Int) = 8 by decide, show ¬ (3 : Int) = 9 by decide, show ¬ (3 : Int) = 10 by decide, if_false, List.length_cons, List.length_append]
    omega
  rw [if_neg k3] at h
  by_cases k4 : kind = 4 ∨ kind = 5 ∨ kind = 7
  · rw [if_pos k4] at h
    simp only [Bool.and_eq_true, decide_eq_true_eq, nameB, keyB] at h
    rw [if_neg (by omega), if_neg (by omega), if_neg (by omega), if_neg (by omega)]
    simp only [List.length_cons, List.length_append]
    omega
  rw [if_neg k4] at h
  by_cases k6 : kind = 6
  · subst k6
    simp only [if_true, Bool.and_eq_true, decide_eq_true_eq, nameB] at h
    have := hdec n.toNat (by omega)
    simp only [if_true, List.length_cons, List.length_append, List.length_nil]
    omega
  rw [if_neg k6] at h ⊢
  by_cases k8 : kind = 8
  · subst k8
    simp only [if_true, Bool.and_eq_true, decide_eq_true_eq] at h
    have := hdec n.toNat (by omega)
    have := hh upload
    simp only [if_true, List.length_cons, List.length_append, List.length_nil]
    omega
  rw [if_neg k8] at h ⊢
  by_cases k9 : kind = 9
  · subst k9
    simp only [if_true, Bool.and_eq_true, decide_eq_true_eq, partsB] at h
    have hp := rising_le parts 0 (by omega) h.1.2.2
    have hcl := commas_le (parts.map fun n => decF n.toNat) 5 (fun a ha => by
      obtain ⟨m, hm, rfl⟩ := List.mem_map.1 ha
      have := hp m hm
      exact hdec _ (by omega))
    rw [List.length_map] at hcl
    have := hh upload
    simp only [if_true, List.length_cons, List.length_append, List.length_nil]
    omega
  rw [if_neg k9] at h ⊢
  by_cases k10 : kind = 10
  · rw [if_pos k10]
    have := hh upload
    simp only [List.length_cons, List.length_append, List.length_nil]
    omega
  · rw [if_neg k10] at h
    cases h

theorem head_small {o : OpD} (h : right o = true) {len : List UInt8} (hl : len.length ≤ 19) : (headD o len).length ≤ 65536 := by
  have h1 := target_len h
  have h2 := method_len o.kind
  have h3 : (hex16 o.id).length = 16 := hexF_len 16 o.id
  simp only [headD, headL, line0, line1, line2, List.length_append, List.length_cons, List.length_nil]
  omega

theorem cut_at {o : OpD} (h : right o = true) {len : List UInt8} (hl : len.length ≤ 19) (hc : ∀ x ∈ len, x ≠ 13) (r : List UInt8) : cutAt (headD o len ++ r) = (headL o len).length := by
  unfold cutAt
  have h1 := head_small h hl
  have : (headD o len ++ r).take 65536 = headD o len ++ r.take (65536 - (headD o len).length) := by
    rw [List.take_append, List.take_of_length_le h1]
  rw [this]
  exact head_at h hc _

theorem bare_of {o : OpD} (h : Wf o) : Bare { o with data := [] } := ⟨rfl, h.id, h.up⟩

theorem op_data (o : OpD) (d : List UInt8) : ({ ({ o with data := [] } : OpD) with data := d } : OpD) = { o with data := d } := rfl
theorem op_self (o : OpD) : ({ ({ o with data := [] } : OpD) with data := o.data } : OpD) = o := rfl

theorem large_small {n : Nat} (h : n ≤ 16777216) : ¬ largeB (decF n) = true := by
  intro hl
  obtain ⟨m, hm, h2⟩ := large_iff.1 hl
  rw [decR_decF (Nat.le_trans (len_dec h) (by omega))] at hm
  cases hm
  omega

/-- The program's reader at a right head, with whatever behind. -/
theorem parse_head {o : OpD} (hr : right o = true) (hb : Bare o) {n : Nat} (hn : n ≤ 16777216) (tl : List UInt8) :
    parseP (headD o (decF n) ++ tl) = if printD { o with data := tl } = some (headD o (decF n) ++ tl) then ({ o with data := tl }, 200) else (opZero, 400) := by
  have hl := len_dec hn
  have hc := cut_at hr (len := decF n) (by omega) (decF_cr n) tl
  obtain ⟨e1, _⟩ := heads_one hr hb (decF_cr n) (rfl : headL o (decF n) = headL o (decF n))
  unfold parseP
  have hh : headD o (decF n) ++ tl = headL o (decF n) ++ crlf2 ++ tl := rfl
  rw [hc, if_neg (by omega), Int.toNat_natCast]
  rw [show (headD o (decF n) ++ tl).take (headL o (decF n)).length = headL o (decF n) by rw [hh, List.append_assoc]; exact List.take_left, e1]
  dsimp only
  rw [if_pos hr, if_neg (fun h => large_small hn h.2)]
  rw [show (headD o (decF n) ++ tl).drop ((headL o (decF n)).length + 4) = tl by rw [hh]; exact drop_app (by simp)]

theorem parse_print {o : OpD} (hr : right o = true) (hw : Wf o) : parseP (headD o (decF o.data.length) ++ o.data) = (o, 200) := by
  have := parse_head (right_bare hr) (bare_of hw) (right_len hr) o.data
  rw [op_self] at this
  rw [headD_data] at this
  rw [this, if_pos]
  unfold printD
  rw [if_pos hr]

/-- Whatever is read is written just so. -/
theorem parse_200 {b : List UInt8} {o : OpD} (h : parseP b = (o, 200)) : printD o = some b ∧ Wf o := by
  unfold parseP at h
  split at h
  · have := congrArg Prod.snd h
    dsimp only at this
    split at this <;> cases this
  · split at h
    · cases h
    · rename_i o' len hh
      split at h
      · split at h
        · split at h <;> cases h
        · split at h
          · rename_i hp
            cases h
            obtain ⟨hb, _⟩ := headP_bare hh
            exact ⟨hp, hb.id, hb.up⟩
          · cases h
      · cases h

theorem parse_else {b : List UInt8} (h : (parseP b).2 ≠ 200) : (parseP b).1 = opZero ∧ ((parseP b).2 = 400 ∨ (parseP b).2 = 413) := by
  unfold parseP at h ⊢
  split
  · exact ⟨rfl, by dsimp only; split <;> simp⟩
  · rename_i hc
    rw [if_neg hc] at h
    split
    · exact ⟨rfl, .inl rfl⟩
    · rename_i o' len hh
      rw [hh] at h
      dsimp only at h
      split
      · rename_i hr
        rw [if_pos hr] at h
        split
        · split
          · exact ⟨rfl, .inr rfl⟩
          · exact ⟨rfl, .inl rfl⟩
        · rename_i hl
          rw [if_neg hl] at h
          split
          · rename_i hp
            rw [if_pos hp] at h
            exact absurd rfl h
          · exact ⟨rfl, .inl rfl⟩
      · exact ⟨rfl, .inl rfl⟩

theorem headL_inj {o : OpD} {a b : List UInt8} (h : headL o a = headL o b) : a = b := by
  unfold headL line2 at h
  exact List.append_cancel_left (List.append_cancel_left (List.append_cancel_left (List.append_cancel_left (List.append_cancel_left h))))

/-- A front of a request is none. -/
theorem parse_front {o : OpD} (hr : right o = true) (hw : Wf o) {c : Nat} (hc : c < (headD o (decF o.data.length) ++ o.data).length) : (parseP ((headD o (decF o.data.length) ++ o.data).take c)).2 ≠ 200 := by
  have hl := len_dec (right_len hr)
  by_cases h : c < (headD o (decF o.data.length)).length
  · have h1 := front_at hr (decF_cr _) h o.data
    have h64 := head_small hr (len := decF o.data.length) (by omega)
    have h2 : cutAt ((headD o (decF o.data.length) ++ o.data).take c) = -1 := by
      unfold cutAt
      rw [List.take_take, Nat.min_eq_right (by omega)]
      exact h1
    unfold parseP
    rw [if_pos h2]
    dsimp only
    split <;> simp
  · have h1 : (headD o (decF o.data.length) ++ o.data).take c = headD o (decF o.data.length) ++ o.data.take (c - (headD o (decF o.data.length)).length) := by
      rw [List.take_append, List.take_of_length_le (by omega)]
    have h2 := parse_head (right_bare hr) (bare_of hw) (right_len hr) (o.data.take (c - (headD o (decF o.data.length)).length))
    rw [headD_data] at h2
    rw [h1, h2, if_neg]
    · simp
    · intro hp
      have : headD o (decF o.data.length) ++ o.data.take (c - (headD o (decF o.data.length)).length) = headL o (decF o.data.length) ++ crlf2 ++ o.data.take (c - (headD o (decF o.data.length)).length) := rfl
      rw [this] at hp
      obtain ⟨_, h4⟩ := printD_iff.1 hp
      have h5 : decF o.data.length = decF (o.data.take (c - (headD o (decF o.data.length)).length)).length := headL_inj (o := o) h4
      have h6 := decF_inj h5
      rw [List.length_append] at hc
      rw [List.length_take] at h6
      omega

/-- A request with bytes behind is none. -/
theorem parse_more {o : OpD} (hr : right o = true) (hw : Wf o) (more : List UInt8) : (parseP (headD o (decF o.data.length) ++ o.data ++ more)).2 = 200 ↔ more = [] := by
  constructor
  · intro h
    have h2 := parse_head (right_bare hr) (bare_of hw) (right_len hr) (o.data ++ more)
    rw [headD_data] at h2
    rw [List.append_assoc, h2] at h
    split at h
    · rename_i hp
      have : headD o (decF o.data.length) ++ (o.data ++ more) = headL o (decF o.data.length) ++ crlf2 ++ (o.data ++ more) := rfl
      rw [this] at hp
      obtain ⟨_, h4⟩ := printD_iff.1 hp
      have h5 : decF o.data.length = decF (o.data ++ more).length := headL_inj (o := o) h4
      have h6 := decF_inj h5
      rw [List.length_append] at h6
      exact List.eq_nil_of_length_eq_zero (by omega)
    · cases h
  · rintro rfl
    rw [List.append_nil, parse_print hr hw]

theorem print_inj {a b : OpD} (ha : Wf a) (hb : Wf b) {x : List UInt8} (h1 : printD a = some x) (h2 : printD b = some x) : a = b := by
  unfold printD at h1 h2
  split at h1
  · rename_i hra
    split at h2
    · rename_i hrb
      cases h1
      have h3 := parse_print hra ha
      have h4 := parse_print hrb hb
      rw [← Option.some.inj h2, h4] at h3
      exact (congrArg Prod.fst h3).symm
    · cases h2
  · cases h1
end Go.Front

/- Responses: what is right, what its bytes are; lines put together and taken apart. -/
namespace Go.Front
open Go.Lib

structure ResD where
  status : Int
  upload : Nat
  keys : List (List UInt8)
  more : Bool
  data : List UInt8

def resZero : ResD := ⟨0, 0, [], false, []⟩

def knownB (n : Int) : Bool := decide (n = 200) || decide (n = 400) || decide (n = 404) || decide (n = 408) || decide (n = 409) || decide (n = 413) || decide (n = 410) || decide (n = 503) || decide (n = 507)

/-- Keys that rise, each of a key's length. -/
def keysF : List (List UInt8) → Bool
  | [] => true
  | [k] => keyB k
  | k :: l :: r => keyB k && Op.bytesLess k l && keysF (l :: r)

def rightR (r : ResD) : Bool := knownB r.status && decide (r.keys.length ≤ 1000) && (decide (r.keys = []) || decide (r.data = [])) && decide (r.data.length ≤ 268435456) && keysF r.keys

def bodyR (r : ResD) : List UInt8 := r.data ++ r.keys.flatMap fun k => esc k ++ [10]

/-- Lines with CR LF between. -/
def lns : List (List UInt8) → List UInt8
  | [] => []
  | [a] => a
  | a :: b :: l => a ++ (13 :: [10] ++ lns (b :: l))

def linesR (id : Nat) (r : ResD) (n : Nat) : List (List UInt8) :=
  ([71, 76, 67, 47, 49, 32] ++ decF r.status.toNat) :: ([105, 100, 58, 32] ++ hex16 id) ::
    ((if r.upload ≠ 0 then [[117, 112, 108, 111, 97, 100, 58, 32] ++ hex16 r.upload] else []) ++
    ((if r.more then [[109, 111, 114, 101, 58, 32, 121, 101, 115]] else []) ++
    ((if r.keys ≠ [] then [[107, 101, 121, 115, 58, 32] ++ decF r.keys.length] else []) ++
    [[108, 101, 110, 103, 116, 104, 58, 32] ++ decF n])))

def headR (id : Nat) (r : ResD) : List UInt8 := lns (linesR id r (bodyR r).length)
def printR (id : Nat) (r : ResD) : Option (List UInt8) := if rightR r then some (headR id r ++ crlf2 ++ bodyR r) else none

theorem lns_cons (a : List UInt8) {l : List (List UInt8)} (h : l ≠ []) : lns (a :: l) = a ++ (13 :: [10] ++ lns l) := by
  cases l with
  | nil => exact absurd rfl h
  | cons b l => rfl

/-- A line: not empty, no CR in it. -/
def LineOk (a : List UInt8) : Prop := a ≠ [] ∧ ∀ x ∈ a, x ≠ 13

theorem lns_head {l : List (List UInt8)} (hl : l ≠ []) (h : ∀ a ∈ l, LineOk a) : ∃ x r, lns l = x :: r ∧ x ≠ 13 := by
  cases l with
  | nil => exact absurd rfl hl
  | cons a l =>
    obtain ⟨h1, h2⟩ := h a (List.mem_cons_self ..)
    cases a with
    | nil => exact absurd rfl h1
    | cons x a =>
      have hx := h2 x (List.mem_cons_self ..)
      cases l with
      | nil => exact ⟨x, a, rfl, hx⟩
      | cons b l => exact ⟨x, _, rfl, hx⟩

theorem lns_at (r : List UInt8) : ∀ l : List (List UInt8), l ≠ [] → (∀ a ∈ l, LineOk a) → index (lns l ++ (crlf2 ++ r)) crlf2 = (lns l).length
  | [], h, _ => absurd rfl h
  | [a], _, h => index_first' (c := 13) (tl := [10, 13, 10]) (h a (List.mem_cons_self ..)).2
  | a :: b :: l, _, h => by
    have ih := lns_at r (b :: l) (by simp) (fun c hc => h c (List.mem_cons_of_mem _ hc))
    obtain ⟨x, q, hx, hx13⟩ := lns_head (l := b :: l) (by simp) (fun c hc => h c (List.mem_cons_of_mem _ hc))
    have e1 := index_crlf (x := x) (r := q ++ (crlf2 ++ r)) hx13
    rw [hx, List.cons_append] at ih
    rw [ih, if_neg (by omega)] at e1
    rw [lns_cons a (by simp), hx, List.append_assoc]
    rw [index_app (c := 13) (tl := [10, 13, 10]) (h a (List.mem_cons_self ..)).2]
    have e2 : 13 :: [10] ++ (x :: q) ++ (crlf2 ++ r) = 13 :: 10 :: x :: (q ++ (crlf2 ++ r)) := by simp
    rw [e2, e1, if_neg (by omega)]
    simp
    omega

theorem lns_count : ∀ (l : List (List UInt8)) (k : Nat), l.length ≤ k → (∀ a ∈ l, ∀ x ∈ a, x ≠ 13) → countFrom [13, 10] k (lns l) = l.length - 1
  | [], k, _, _ => count_none (c := 13) (tl := [10]) (a := []) (fun x hx => by cases hx) k
  | [a], k, _, h => count_none (c := 13) (tl := [10]) (h a (List.mem_cons_self ..)) k
  | a :: b :: l, 0, hk, _ => by simp at hk
  | a :: b :: l, k + 1, hk, h => by
    rw [lns_cons a (by simp), count_step (c := 13) (tl := [10]) (h a (List.mem_cons_self ..)), lns_count (b :: l) k (by simp at hk ⊢; omega) (fun c hc => h c (List.mem_cons_of_mem _ hc))]
    simp; omega

theorem lns_len : ∀ l : List (List UInt8), l.length ≤ (lns l).length + 1
  | [] => by simp
  | [a] => by simp
  | a :: b :: l => by
    have := lns_len (b :: l)
    rw [lns_cons a (by simp), List.length_append, List.length_append]
    simp at this ⊢
    omega

theorem lns_splitK : ∀ l : List (List UInt8), l ≠ [] → (∀ a ∈ l, ∀ x ∈ a, x ≠ 13) → splitK [13, 10] 0 (l.length - 1) (lns l) = l
  | [], h, _ => absurd rfl h
  | [a], _, _ => rfl
  | a :: b :: l, _, h => by
    have ih := lns_splitK (b :: l) (by simp) (fun c hc => h c (List.mem_cons_of_mem _ hc))
    rw [lns_cons a (by simp), show (a :: b :: l).length - 1 = (b :: l).length - 1 + 1 by simp, splitK, index_first' (c := 13) (tl := [10]) (h a (List.mem_cons_self ..)), if_neg (by simp)]
    simp only [Int.toNat_natCast, Nat.add_zero]
    have hd : (a ++ (13 :: [10] ++ lns (b :: l))).drop (a.length + ([13, 10] : List UInt8).length) = lns (b :: l) := by
      rw [← List.append_assoc, show a.length + ([13, 10] : List UInt8).length = (a ++ (13 :: ([10] : List UInt8))).length by simp, List.drop_left]
    rw [hd, List.take_left, ih]

theorem split_lns {l : List (List UInt8)} (hl : l ≠ []) (h : ∀ a ∈ l, ∀ x ∈ a, x ≠ 13) : Lib.split (lns l) [13, 10] = l := by
  unfold Lib.split count
  rw [lns_count l _ (lns_len l) h, lns_splitK l hl h]

/-- The same for lines with LF between. -/
def lfs : List (List UInt8) → List UInt8
  | [] => []
  | [a] => a
  | a :: b :: l => a ++ (10 :: [] ++ lfs (b :: l))

theorem lfs_cons (a : List UInt8) {l : List (List UInt8)} (h : l ≠ []) : lfs (a :: l) = a ++ (10 :: [] ++ lfs l) := by
  cases l with
  | nil => exact absurd rfl h
  | cons b l => rfl

theorem lfs_count : ∀ (l : List (List UInt8)) (k : Nat), l.length ≤ k → (∀ a ∈ l, ∀ x ∈ a, x ≠ 10) → countFrom [10] k (lfs l) = l.length - 1
  | [], k, _, _ => count_none (c := 10) (tl := []) (a := []) (fun x hx => by cases hx) k
  | [a], k, _, h => count_none (c := 10) (tl := []) (h a (List.mem_cons_self ..)) k
  | a :: b :: l, 0, hk, _ => by simp at hk
  | a :: b :: l, k + 1, hk, h => by
    rw [lfs_cons a (by simp), count_step (c := 10) (tl := []) (h a (List.mem_cons_self ..)), lfs_count (b :: l) k (by simp at hk ⊢; omega) (fun c hc => h c (List.mem_cons_of_mem _ hc))]
    simp; omega

theorem lfs_len : ∀ l : List (List UInt8), l.length ≤ (lfs l).length + 1
  | [] => by simp
  | [a] => by simp
  | a :: b :: l => by
    have := lfs_len (b :: l)
    rw [lfs_cons a (by simp), List.length_append, List.length_append]
    simp at this ⊢
    omega

theorem lfs_splitK : ∀ l : List (List UInt8), l ≠ [] → (∀ a ∈ l, ∀ x ∈ a, x ≠ 10) → splitK [10] 0 (l.length - 1) (lfs l) = l
  | [], h, _ => absurd rfl h
  | [a], _, _ => rfl
  | a :: b :: l, _, h => by
    have ih := lfs_splitK (b :: l) (by simp) (fun c hc => h c (List.mem_cons_of_mem _ hc))
    rw [lfs_cons a (by simp), show (a :: b :: l).length - 1 = (b :: l).length - 1 + 1 by simp, splitK, index_first' (c := 10) (tl := []) (h a (List.mem_cons_self ..)), if_neg (by simp)]
    simp only [Int.toNat_natCast, Nat.add_zero]
    have hd : (a ++ (10 :: [] ++ lfs (b :: l))).drop (a.length + ([10] : List UInt8).length) = lfs (b :: l) := by
      rw [← List.append_assoc, show a.length + ([10] : List UInt8).length = (a ++ (10 :: ([] : List UInt8))).length by simp, List.drop_left]
    rw [hd, List.take_left, ih]

theorem split_lfs {l : List (List UInt8)} (hl : l ≠ []) (h : ∀ a ∈ l, ∀ x ∈ a, x ≠ 10) : Lib.split (lfs l) [10] = l := by
  unfold Lib.split count
  rw [lfs_count l _ (lfs_len l) h, lfs_splitK l hl h]

theorem keys_lfs : ∀ l : List (List UInt8), l ≠ [] → (l.flatMap fun k => esc k ++ [10]) = lfs (l.map esc) ++ [10]
  | [], h => absurd rfl h
  | [k], _ => by simp [lfs]
  | k :: m :: l, _ => by
    have ih := keys_lfs (m :: l) (by simp)
    rw [List.flatMap_cons, ih, List.map_cons (l := m :: l), lfs_cons (esc k) (l := (m :: l).map esc) (by simp)]
    simp

theorem trim_keys {l : List (List UInt8)} (h : l ≠ []) : Lib.trimSuffix (l.flatMap fun k => esc k ++ [10]) [10] = lfs (l.map esc) := by
  rw [keys_lfs l h]
  unfold Lib.trimSuffix hasSuffix
  rw [if_pos (by rw [List.isSuffixOf_iff_suffix]; exact ⟨_, rfl⟩)]
  rw [List.length_append, Nat.add_sub_cancel]
  exact List.take_left

/-- The keys of a body, as the program reads them. -/
def keysP (body : List UInt8) : List (List UInt8) := (Lib.split (Lib.trimSuffix body [10]) [10]).map fun s => (unesc s).getD []

theorem esc_lf (k : List UInt8) : ∀ x ∈ esc k, x ≠ 10 := ne_of_esc (by decide)

theorem keysP_right {l : List (List UInt8)} (h : l ≠ []) : keysP (l.flatMap fun k => esc k ++ [10]) = l := by
  unfold keysP
  rw [trim_keys h, split_lfs (by simpa using h) (fun a ha => by obtain ⟨k, _, rfl⟩ := List.mem_map.1 ha; exact esc_lf k), List.map_map]
  conv => rhs; rw [← List.map_id l]
  refine List.map_congr_left fun k _ => ?_
  simp only [Function.comp]
  rw [unesc_iff.2 (rfl : esc k = esc k)]
  rfl

/-- The first line that begins so, without its name. -/
def fieldP (name : List UInt8) : List (List UInt8) → List UInt8
  | [] => []
  | a :: l => match cutP a name with
    | some v => v
    | none => fieldP name l

theorem known_pos {n : Int} (h : knownB n = true) : 200 ≤ n ∧ n ≤ 507 := by
  unfold knownB at h
  simp only [Bool.or_eq_true, decide_eq_true_eq] at h
  omega

theorem dec_line (p : List UInt8) (n : Nat) (hp : p ≠ []) (h : ∀ x ∈ p, x ≠ 13) : LineOk (p ++ decF n) := ⟨by simp [hp], app_ne h (decF_cr n)⟩
theorem hex_line (p : List UInt8) (n : Nat) (hp : p ≠ []) (h : ∀ x ∈ p, x ≠ 13) : LineOk (p ++ hex16 n) := ⟨by simp [hp], app_ne h (tg_ne hex_tg (by decide))⟩

theorem linesR_ok (id : Nat) (r : ResD) (n : Nat) : linesR id r n ≠ [] ∧ ∀ a ∈ linesR id r n, LineOk a := by
  refine ⟨by simp [linesR], ?_⟩
  intro a ha
  unfold linesR at ha
  simp only [List.mem_cons, List.mem_append] at ha
  rcases ha with rfl | rfl | ha | ha | ha | ha
  · exact dec_line _ _ (by simp) (by decide)
  · exact hex_line _ _ (by simp) (by decide)
  · split at ha
    · rw [List.mem_singleton.1 ha]; exact hex_line _ _ (by simp) (by decide)
    · cases ha
  · split at ha
    · rw [List.mem_singleton.1 ha]; exact ⟨by simp, by decide⟩
    · cases ha
  · split at ha
    · rw [List.mem_singleton.1 ha]; exact dec_line _ _ (by simp) (by decide)
    · cases ha
  · rcases ha with rfl | ha
    · exact dec_line _ _ (by simp) (by decide)
    · cases ha
end Go.Front

/- What the readers of a response tell at a right one. -/
namespace Go.Front
open Go.Lib

abbrev nGlc : List UInt8 := [71, 76, 67, 47, 49, 32]
abbrev nId : List UInt8 := [105, 100, 58, 32]
abbrev nUp : List UInt8 := [117, 112, 108, 111, 97, 100, 58, 32]
abbrev nMore : List UInt8 := [109, 111, 114, 101, 58, 32]
abbrev nKeys : List UInt8 := [107, 101, 121, 115, 58, 32]
abbrev nLen : List UInt8 := [108, 101, 110, 103, 116, 104, 58, 32]
abbrev yesL : List UInt8 := [121, 101, 115]

theorem cutP_ne {x y : UInt8} {a p : List UInt8} (h : x ≠ y) : cutP (x :: a) (y :: p) = none := by
  unfold cutP hasPrefix
  have : (y :: p).isPrefixOf (x :: a) = false := by simp [List.isPrefixOf]; intro e; exact absurd e.symm h
  rw [this]
  rfl

theorem fieldP_hit (name v : List UInt8) (l : List (List UInt8)) : fieldP name ((name ++ v) :: l) = v := by
  rw [fieldP, cutP_app]
theorem fieldP_miss {x y : UInt8} {a p : List UInt8} (h : x ≠ y) (l : List (List UInt8)) : fieldP (y :: p) ((x :: a) :: l) = fieldP (y :: p) l := by
  rw [fieldP, cutP_ne h]

theorem fields_right (id : Nat) (r : ResD) (n : Nat) :
    fieldP nGlc (linesR id r n) = decF r.status.toNat ∧ fieldP nId (linesR id r n) = hex16 id ∧
    fieldP nUp (linesR id r n) = (if r.upload ≠ 0 then hex16 r.upload else []) ∧
    fieldP nMore (linesR id r n) = (if r.more then yesL else []) ∧
    fieldP nKeys (linesR id r n) = (if r.keys ≠ [] then decF r.keys.length else []) := by
  have e : ∀ (p : List UInt8) (y : UInt8), fieldP (y :: p) [] = [] := fun _ _ => rfl
  unfold linesR
  refine ⟨fieldP_hit _ _ _, ?_, ?_, ?_, ?_⟩
  · exact (fieldP_miss (by decide) _).trans (fieldP_hit _ _ _)
  · refine (fieldP_miss (by decide) _).trans ((fieldP_miss (by decide) _).trans ?_)
    by_cases h1 : r.upload ≠ 0
    · rw [if_pos h1, if_pos h1]; exact fieldP_hit _ _ _
    · rw [if_neg h1, if_neg h1, List.nil_append]
      by_cases h2 : r.more = true
      · rw [if_pos h2]
        refine (fieldP_miss (by decide) _).trans ?_
        by_cases h3 : r.keys ≠ []
        · rw [if_pos h3]; exact (fieldP_miss (by decide) _).trans (fieldP_miss (by decide) _)
        · rw [if_neg h3]; exact fieldP_miss (by decide) _
      · rw [if_neg h2, List.nil_append]
        by_cases h3 : r.keys ≠ []
        · rw [if_pos h3]; exact (fieldP_miss (by decide) _).trans (fieldP_miss (by decide) _)
        · rw [if_neg h3]; exact fieldP_miss (by decide) _
  · refine (fieldP_miss (by decide) _).trans ((fieldP_miss (by decide) _).trans ?_)
    have key : fieldP nMore ((if r.more then [[109, 111, 114, 101, 58, 32, 121, 101, 115]] else []) ++ ((if r.keys ≠ [] then [[107, 101, 121, 115, 58, 32] ++ decF r.keys.length] else []) ++ [[108, 101, 110, 103, 116, 104, 58, 32] ++ decF n])) = (if r.more then yesL else []) := by
      by_cases h2 : r.more = true
      · rw [if_pos h2, if_pos h2]; exact fieldP_hit nMore yesL _
      · rw [if_neg h2, if_neg h2, List.nil_append]
        by_cases h3 : r.keys ≠ []
        · rw [if_pos h3]; exact (fieldP_miss (by decide) _).trans (fieldP_miss (by decide) _)
        · rw [if_neg h3]; exact fieldP_miss (by decide) _
    by_cases h1 : r.upload ≠ 0
    · rw [if_pos h1]; exact (fieldP_miss (by decide) _).trans key
    · rw [if_neg h1, List.nil_append]; exact key
  · refine (fieldP_miss (by decide) _).trans ((fieldP_miss (by decide) _).trans ?_)
    have key : fieldP nKeys ((if r.keys ≠ [] then [[107, 101, 121, 115, 58, 32] ++ decF r.keys.length] else []) ++ [[108, 101, 110, 103, 116, 104, 58, 32] ++ decF n]) = (if r.keys ≠ [] then decF r.keys.length else []) := by
      by_cases h3 : r.keys ≠ []
      · rw [if_pos h3, if_pos h3]; exact fieldP_hit _ _ _
      · rw [if_neg h3, if_neg h3]; exact fieldP_miss (by decide) _
    have key2 : fieldP nKeys ((if r.more then [[109, 111, 114, 101, 58, 32, 121, 101, 115]] else []) ++ ((if r.keys ≠ [] then [[107, 101, 121, 115, 58, 32] ++ decF r.keys.length] else []) ++ [[108, 101, 110, 103, 116, 104, 58, 32] ++ decF n])) = (if r.keys ≠ [] then decF r.keys.length else []) := by
      by_cases h2 : r.more = true
      · rw [if_pos h2]; exact (fieldP_miss (by decide) _).trans key
      · rw [if_neg h2, List.nil_append]; exact key
    by_cases h1 : r.upload ≠ 0
    · rw [if_pos h1]; exact (fieldP_miss (by decide) _).trans key2
    · rw [if_neg h1, List.nil_append]; exact key2

/-- The document's 'field'. -/
def fieldR (s name : List UInt8) : List UInt8 × List UInt8 × Bool :=
  match cutP s name with
  | none => ([], s, false)
  | some r => match untilR r [13, 10] with
    | none => ([], s, false)
    | some (v, rest) => (v, rest, true)

/-- What is left of a response's head behind some lines. -/
def rests (l : List (List UInt8)) : List UInt8 := l.flatMap fun a => a ++ [13, 10]

theorem lns_rests : ∀ l : List (List UInt8), l ≠ [] → lns l ++ crlf2 = rests l ++ [13, 10]
  | [], h => absurd rfl h
  | [a], _ => by simp [lns, rests]
  | a :: b :: l, _ => by
    have ih := lns_rests (b :: l) (by simp)
    rw [lns_cons a (by simp)]
    have : a ++ (13 :: [10] ++ lns (b :: l)) ++ crlf2 = a ++ ([13, 10] ++ (lns (b :: l) ++ crlf2)) := by simp
    rw [this, ih]
    simp [rests]

theorem fieldR_hit {name v : List UInt8} (l : List (List UInt8)) (h : ∀ x ∈ v, x ≠ 13) : fieldR (rests ((name ++ v) :: l) ++ [13, 10]) name = (v, rests l ++ [13, 10], true) := by
  have e : rests ((name ++ v) :: l) ++ [13, 10] = name ++ (v ++ (13 :: [10] ++ (rests l ++ [13, 10]))) := by simp [rests]
  unfold fieldR
  rw [e, cutP_app]
  dsimp only
  rw [until_first h]

theorem fieldR_miss {x y : UInt8} {a p : List UInt8} (l : List (List UInt8)) (h : x ≠ y) : fieldR (rests ((x :: a) :: l) ++ [13, 10]) (y :: p) = ([], rests ((x :: a) :: l) ++ [13, 10], false) := by
  have e : rests ((x :: a) :: l) ++ [13, 10] = x :: (a ++ ([13, 10] ++ (rests l ++ [13, 10]))) := by simp [rests]
  unfold fieldR
  rw [e, cutP_ne h]

def tailK (_ : ResD) (n : Nat) : List (List UInt8) := [nLen ++ decF n]
def tailM (r : ResD) (n : Nat) : List (List UInt8) := (if r.keys ≠ [] then [nKeys ++ decF r.keys.length] else []) ++ tailK r n
def tailU (r : ResD) (n : Nat) : List (List UInt8) := (if r.more then [nMore ++ yesL] else []) ++ tailM r n
def tailI (r : ResD) (n : Nat) : List (List UInt8) := (if r.upload ≠ 0 then [nUp ++ hex16 r.upload] else []) ++ tailU r n

theorem linesR_tail (id : Nat) (r : ResD) (n : Nat) : linesR id r n = (nGlc ++ decF r.status.toNat) :: (nId ++ hex16 id) :: tailI r n := rfl

theorem docs_glc (id : Nat) (r : ResD) (n : Nat) : fieldR (lns (linesR id r n) ++ crlf2) nGlc = (decF r.status.toNat, rests ((nId ++ hex16 id) :: tailI r n) ++ [13, 10], true) := by
  rw [lns_rests _ (linesR_ok id r n).1, linesR_tail]
  exact fieldR_hit _ (decF_cr _)
theorem docs_id (id : Nat) (r : ResD) (n : Nat) : fieldR (rests ((nId ++ hex16 id) :: tailI r n) ++ [13, 10]) nId = (hex16 id, rests (tailI r n) ++ [13, 10], true) := fieldR_hit _ (tg_ne hex_tg (by decide))
theorem docs_up (r : ResD) (n : Nat) : fieldR (rests (tailI r n) ++ [13, 10]) nUp = if r.upload ≠ 0 then (hex16 r.upload, rests (tailU r n) ++ [13, 10], true) else ([], rests (tailU r n) ++ [13, 10], false) := by
  unfold tailI
  by_cases h1 : r.upload ≠ 0
  · rw [if_pos h1, if_pos h1]; exact fieldR_hit _ (tg_ne hex_tg (by decide))
  · rw [if_neg h1, if_neg h1, List.nil_append]
    unfold tailU
    by_cases h2 : r.more = true
    · rw [if_pos h2]; exact fieldR_miss _ (by decide)
    · rw [if_neg h2, List.nil_append]
      unfold tailM
      by_cases h3 : r.keys ≠ []
      · rw [if_pos h3]; exact fieldR_miss _ (by decide)
      · rw [if_neg h3, List.nil_append]; exact fieldR_miss _ (by decide)
theorem docs_more (r : ResD) (n : Nat) : fieldR (rests (tailU r n) ++ [13, 10]) nMore = if r.more then (yesL, rests (tailM r n) ++ [13, 10], true) else ([], rests (tailM r n) ++ [13, 10], false) := by
  unfold tailU
  by_cases h2 : r.more = true
  · rw [if_pos h2, if_pos h2]; exact fieldR_hit _ (by decide)
  · rw [if_neg h2, if_neg h2, List.nil_append]
    unfold tailM
    by_cases h3 : r.keys ≠ []
    · rw [if_pos h3]; exact fieldR_miss _ (by decide)
    · rw [if_neg h3, List.nil_append]; exact fieldR_miss _ (by decide)
theorem docs_keys (r : ResD) (n : Nat) : fieldR (rests (tailM r n) ++ [13, 10]) nKeys = if r.keys ≠ [] then (decF r.keys.length, rests (tailK r n) ++ [13, 10], true) else ([], rests (tailK r n) ++ [13, 10], false) := by
  unfold tailM
  by_cases h3 : r.keys ≠ []
  · rw [if_pos h3, if_pos h3]; exact fieldR_hit _ (decF_cr _)
  · rw [if_neg h3, if_neg h3, List.nil_append]; exact fieldR_miss _ (by decide)

/-- The document's 'lined', but for the count. -/
def linedF : Nat → List UInt8 → Option (List (List UInt8))
  | 0, _ => none
  | k + 1, s => if s = [] then some [] else match untilR s [10] with
    | none => none
    | some (a, rest) => match unesc a with
      | none => none
      | some x => (linedF k rest).map (x :: ·)
def linedR (s : List UInt8) : Option (List (List UInt8)) := linedF (s.length + 1) s

theorem linedF_keys : ∀ (l : List (List UInt8)) (k : Nat), l.length < k → linedF k (l.flatMap fun k => esc k ++ [10]) = some l
  | [], k + 1, _ => by simp [linedF]
  | x :: l, 0, h => by omega
  | x :: l, k + 1, h => by
    have e : ((x :: l).flatMap fun k => esc k ++ [10]) = esc x ++ (10 :: [] ++ l.flatMap fun k => esc k ++ [10]) := by simp
    rw [linedF, if_neg (by rw [e]; simp), e, until_first (c := 10) (tl := []) (esc_lf x)]
    dsimp only
    rw [unesc_iff.2 (rfl : esc x = esc x)]
    dsimp only
    rw [linedF_keys l k (by simp at h; omega)]
    rfl

theorem linedR_keys (l : List (List UInt8)) : linedR (l.flatMap fun k => esc k ++ [10]) = some l := by
  unfold linedR
  refine linedF_keys l _ ?_
  have : l.length ≤ (l.flatMap fun k => esc k ++ [10]).length := by
    induction l with
    | nil => simp
    | cons x l ih => simp only [List.flatMap_cons, List.length_append, List.length_cons, List.length_nil]; omega
  omega

/-- These bytes are a right response's. -/
structure IsRes (b : List UInt8) (id : Nat) (r : ResD) : Prop where
  right : rightR r = true
  idOk : id < 2 ^ 64
  upOk : r.upload < 2 ^ 64
  eq : b = headR id r ++ crlf2 ++ bodyR r

theorem IsRes.pos {b : List UInt8} {id : Nat} {r : ResD} (h : IsRes b id r) : index b crlf2 = (headR id r).length := by
  rw [h.eq, List.append_assoc]
  obtain ⟨h1, h2⟩ := linesR_ok id r (bodyR r).length
  exact lns_at _ _ h1 h2

theorem IsRes.head {b hd tl : List UInt8} {id : Nat} {r : ResD} (h : IsRes b id r) (hb : b = hd ++ crlf2 ++ tl) (hi : index b crlf2 = hd.length) : hd = headR id r ∧ tl = bodyR r := by
  have h1 := h.pos
  rw [hi] at h1
  have hl : hd.length = (headR id r).length := by omega
  have h2 := h.eq
  rw [hb, List.append_assoc, List.append_assoc] at h2
  obtain ⟨h3, h4⟩ := List.append_inj h2 hl
  exact ⟨h3, List.append_cancel_left h4⟩

theorem split_head (id : Nat) (r : ResD) : Lib.split (headR id r) [13, 10] = linesR id r (bodyR r).length := by
  obtain ⟨h1, h2⟩ := linesR_ok id r (bodyR r).length
  exact split_lns h1 (fun a ha => (h2 a ha).2)

theorem known_dec {r : ResD} (h : rightR r = true) : ((r.status.toNat : Nat) : Int) = r.status ∧ r.status.toNat ≤ 507 := by
  unfold rightR at h
  simp only [Bool.and_eq_true] at h
  have := known_pos h.1.1.1.1
  omega

theorem right_keys {r : ResD} (h : rightR r = true) : (r.keys = [] ∨ r.data = []) ∧ r.keys.length ≤ 1000 ∧ r.data.length ≤ 268435456 := by
  unfold rightR at h
  simp only [Bool.and_eq_true, Bool.or_eq_true, decide_eq_true_eq] at h
  exact ⟨h.1.1.2, h.1.1.1.2, h.1.2⟩

/-- One text is one response's. -/
theorem IsRes.one {b : List UInt8} {id id' : Nat} {r r' : ResD} (h : IsRes b id r) (h' : IsRes b id' r') : id = id' ∧ r = r' := by
  have hh := h'.head h.eq h.pos
  obtain ⟨e1, e2⟩ := hh
  have s1 := split_head id r
  rw [e1, split_head] at s1
  obtain ⟨a1, a2, a3, a4, a5⟩ := fields_right id r (bodyR r).length
  rw [← s1] at a1 a2 a3 a4 a5
  obtain ⟨b1, b2, b3, b4, b5⟩ := fields_right id' r' (bodyR r').length
  rw [b1] at a1
  rw [b2] at a2
  rw [b3] at a3
  rw [b4] at a4
  rw [b5] at a5
  have c1 := decF_inj a1
  have c2 := hex16_inj h'.idOk h.idOk a2
  have k1 := known_dec h.right
  have k2 := known_dec h'.right
  have hst : r.status = r'.status := by omega
  have hx : ∀ u, hex16 u ≠ [] := fun u e => by
    have : (hex16 u).length = 16 := hexF_len 16 u
    rw [e] at this
    simp at this
  have hup : r.upload = r'.upload := by
    by_cases g : r.upload ≠ 0
    · rw [if_pos g] at a3
      by_cases g' : r'.upload ≠ 0
      · rw [if_pos g'] at a3; exact (hex16_inj h'.upOk h.upOk a3).symm
      · rw [if_neg g'] at a3; exact absurd a3.symm (hx _)
    · rw [if_neg g] at a3
      by_cases g' : r'.upload ≠ 0
      · rw [if_pos g'] at a3; exact absurd a3 (hx _)
      · simp only [ne_eq, Decidable.not_not] at g g'
        rw [g, g']
  have hmore : r.more = r'.more := by
    cases g : r.more <;> cases g' : r'.more <;> rw [g, g'] at a4 <;> simp at a4 ⊢
  have hke : (r.keys = [] ↔ r'.keys = []) := by
    by_cases g : r.keys ≠ [] <;> by_cases g' : r'.keys ≠ []
    · simp [g, g']
    · rw [if_pos g, if_neg g'] at a5; exact absurd a5.symm (decF_ne _)
    · rw [if_neg g, if_pos g'] at a5; exact absurd a5 (decF_ne _)
    · simp only [ne_eq, Decidable.not_not] at g g'
      simp [g, g']
  have hkd : r.keys = r'.keys ∧ r.data = r'.data := by
    unfold bodyR at e2
    by_cases g : r.keys = []
    · have g' := hke.1 g
      rw [g, g'] at e2
      exact ⟨g.trans g'.symm, by simpa using e2⟩
    · have g' : r'.keys ≠ [] := fun x => g (hke.2 x)
      have d := (right_keys h.right).1.resolve_left g
      have d' := (right_keys h'.right).1.resolve_left g'
      rw [d, d', List.nil_append, List.nil_append] at e2
      have k1 := keysP_right g
      rw [e2, keysP_right g'] at k1
      exact ⟨k1.symm, d.trans d'.symm⟩
  refine ⟨c2.symm, ?_⟩
  obtain ⟨s, u, k, m, d⟩ := r
  obtain ⟨s', u', k', m', d'⟩ := r'
  simp only at hst hup hmore hkd
  rw [hst, hup, hmore, hkd.1, hkd.2]

/-- What the program's reader makes of a right response. -/
theorem IsRes.prog {b hd tl : List UInt8} {id : Nat} {r : ResD} (h : IsRes b id r) (hb : b = hd ++ crlf2 ++ tl) (hi : index b crlf2 = hd.length) {st : Int} {id' up : Nat}
    (h1 : ∀ m : Nat, m ≤ 1000 → fieldP nGlc (Lib.split hd [13, 10]) = decF m → st = m) (h2 : ∀ u, u < 2 ^ 64 → fieldP nId (Lib.split hd [13, 10]) = hex16 u → id' = u) (h3 : ∀ u, u < 2 ^ 64 → fieldP nUp (Lib.split hd [13, 10]) = hex16 u → up = u) (h4 : fieldP nUp (Lib.split hd [13, 10]) = [] → up = 0) :
    id' = id ∧ (⟨st, up, if fieldP nKeys (Lib.split hd [13, 10]) = [] then [] else keysP tl, decide (fieldP nMore (Lib.split hd [13, 10]) = yesL), if fieldP nKeys (Lib.split hd [13, 10]) = [] then tl else []⟩ : ResD) = r := by
  obtain ⟨e1, e2⟩ := h.head hb hi
  obtain ⟨a1, a2, a3, a4, a5⟩ := fields_right id r (bodyR r).length
  rw [← split_head, ← e1] at a1 a2 a3 a4 a5
  have k1 := known_dec h.right
  have hst := h1 _ (by omega) a1
  have hid := h2 _ h.idOk a2
  have hup : up = r.upload := by
    by_cases g : r.upload ≠ 0
    · rw [if_pos g] at a3; exact h3 _ h.upOk a3
    · rw [if_neg g] at a3
      simp only [ne_eq, Decidable.not_not] at g
      rw [g]; exact h4 a3
  refine ⟨hid, ?_⟩
  rw [a4, a5, e2]
  obtain ⟨s, u, k, m, d⟩ := r
  simp only at *
  have hm : decide ((if m = true then yesL else []) = yesL) = m := by cases m <;> simp
  rw [hm, hst, hup, k1.1]
  by_cases g : k = []
  · subst g
    simp [bodyR]
  · have d0 := (right_keys h.right).1.resolve_left g
    simp only at d0
    subst d0
    have e5 : (if k ≠ [] then decF k.length else []) = decF k.length := if_pos g
    rw [e5, if_neg (decF_ne _), if_neg (decF_ne _)]
    have : bodyR ⟨s, u, k, m, []⟩ = k.flatMap fun k => esc k ++ [10] := by simp [bodyR]
    rw [this, keysP_right g]

theorem head_short (id : Nat) (r : ResD) (h : rightR r = true) (hn : (bodyR r).length < 10 ^ 19) : (headR id r).length ≤ 200 := by
  have k1 := known_dec h
  have k2 := (right_keys h).2.1
  have d1 := decF_len 2 r.status.toNat (by omega)
  have d2 := decF_len 3 r.keys.length (by omega)
  have d3 := decF_len 18 (bodyR r).length hn
  have hx : ∀ u, (hex16 u).length = 16 := fun u => hexF_len 16 u
  have key : ∀ l : List (List UInt8), (lns l).length ≤ (l.map fun a => a.length + 2).sum := by
    intro l
    induction l with
    | nil => simp [lns]
    | cons a l ih =>
      cases l with
      | nil => simp [lns]
      | cons b l =>
        rw [lns_cons a (by simp)]
        simp only [List.map_cons, List.sum_cons, List.length_append, List.length_cons, List.length_nil] at ih ⊢
        omega
  refine Nat.le_trans (key _) ?_
  unfold linesR
  simp only [List.map_cons, List.map_append, List.sum_cons, List.sum_append, List.length_append, List.length_cons, List.length_nil, hx, List.map_nil, List.sum_nil]
  have u1 : ((if r.upload ≠ 0 then [[117, 112, 108, 111, 97, 100, 58, 32] ++ hex16 r.upload] else []).map fun a : List UInt8 => a.length + 2).sum ≤ 26 := by
    split
    · simp [hx]
    · simp
  have u2 : ((if r.more then [[109, 111, 114, 101, 58, 32, 121, 101, 115]] else []).map fun a : List UInt8 => a.length + 2).sum ≤ 11 := by
    split <;> simp
  have u3 : ((if r.keys ≠ [] then [[107, 101, 121, 115, 58, 32] ++ decF r.keys.length] else []).map fun a : List UInt8 => a.length + 2).sum ≤ 12 := by
    split
    · simp; omega
    · simp
  omega
end Go.Front

/- The document's reader of a head: the bounds of what it reads. -/
namespace Go.Front
open Go.Lib

/-- The bounds that a line's parts must keep. -/
structure LnB (o : OpD) : Prop where
  k1 : 1 ≤ o.kind
  k2 : o.kind ≤ 10
  b : o.bucket.length ≤ 100000
  k : o.key.length ≤ 100000
  a : o.after.length ≤ 100000
  n1 : 0 ≤ o.n
  n2 : o.n ≤ 2000000000000
  pl : o.parts.length ≤ 30000
  ps : ∀ x ∈ o.parts, 0 ≤ x ∧ x ≤ 2000000000000

theorem esc_ge : ∀ s : List UInt8, s.length ≤ (esc s).length
  | [] => Nat.le_refl _
  | c :: s => by
    have := esc_ge s
    rw [esc_cons, List.length_append, List.length_cons]
    unfold esc1
    split <;> simp <;> omega

theorem unesc_len {s t : List UInt8} (h : unesc s = some t) : t.length ≤ s.length := by
  rw [← unesc_iff.1 h]
  exact esc_ge t

theorem untilR_len {s x a b : List UInt8} (h : untilR s x = some (a, b)) : a.length ≤ s.length ∧ b.length ≤ s.length := by
  unfold untilR Lib.cut at h
  split at h
  · rename_i a' b' he
    cases h
    split at he
    · cases he
      constructor
      · rw [List.length_take]; exact Nat.min_le_right _ _
      · rw [List.length_drop]; omega
    · cases he
  · cases h

theorem smallR_le {s : List UInt8} {n : Nat} (h : smallR s = some n) : n ≤ 1099511627776 := by
  unfold smallR at h
  cases hd : decR s with
  | none => rw [hd] at h; cases h
  | some m =>
    rw [hd] at h
    simp only [Option.bind_some] at h
    split at h
    · cases h; assumption
    · cases h

theorem listedF_in : ∀ (k c : Nat) (s : List UInt8) (l : List Int), listedF k c s = some l → l.length + c ≤ 20001 ∧ ∀ x ∈ l, 0 ≤ x ∧ x ≤ 2000000000000
  | 0, c, s, l, h => by cases h
  | k + 1, c, s, l, h => by
    unfold listedF at h
    split at h
    · split at h
      · rename_i n hn
        have := smallR_le hn
        split at h
        · cases h
          refine ⟨by simp; omega, fun x hx => ?_⟩
          rw [List.mem_singleton.1 hx]
          omega
        · cases h
      · cases h
    · split at h
      · rename_i n hn
        have := smallR_le hn
        split at h
        · rename_i a rest _ _ _
          cases hr : listedF k (c + 1) rest with
          | none => rw [hr] at h; cases h
          | some l' =>
            rw [hr] at h
            cases h
            obtain ⟨h1, h2⟩ := listedF_in k (c + 1) rest l' hr
            refine ⟨by simp; omega, fun x hx => ?_⟩
            rcases List.mem_cons.1 hx with rfl | hx
            · omega
            · exact h2 x hx
        · cases h
      · cases h

theorem uploadR_in {how s : List UInt8} {o : OpD} (h : uploadR how s = some o) : LnB o := by
  unfold uploadR at h
  split at h
  · cases h
  · split at h
    · cases h
    · rename_i u hu
      split at h
      · cases h
        constructor <;> simp [opZero]
      · split at h
        · cases hm : smallR ((s.drop 16).drop 6) with
          | none => rw [hm] at h; cases h
          | some n =>
            rw [hm] at h
            cases h
            have := smallR_le hm
            constructor <;> simp [opZero] <;> omega
        · split at h
          · cases hm : listedR ((s.drop 16).drop 7) with
            | none => rw [hm] at h; cases h
            | some l =>
              rw [hm] at h
              cases h
              obtain ⟨h1, h2⟩ := listedF_in _ _ _ _ hm
              exact ⟨by simp, by simp, by simp [opZero], by simp [opZero], by simp [opZero], by simp [opZero], by simp [opZero], by simp only; omega, h2⟩
          · cases h

theorem listingR_in {b s : List UInt8} {o : OpD} (h : listingR b s = some o) (hb : b.length ≤ 100000) (hs : s.length + 1 ≤ 100000) : LnB o := by
  unfold listingR at h
  split at h
  · cases h
  · rename_i a1 s1 h1
    have e1 := untilR_len h1
    rw [List.length_cons] at e1
    split at h
    · cases h
    · rename_i p s2 h2
      have e2 := untilR_len h2
      split at h
      · cases h
      · rename_i a n h3
        have e3 := untilR_len h3
        split at h
        · rename_i k a' n' hk ha hn
          cases h
          have := unesc_len hk
          have := unesc_len ha
          have := smallR_le hn
          exact ⟨by simp, by simp, hb, by simp only; omega, by simp only; omega, by simp only; omega, by simp only; omega, by simp [opZero], by simp [opZero]⟩
        · cases h

theorem kindK_in (how : List UInt8) : 0 ≤ kindK how ∧ kindK how ≤ 10 := by
  unfold kindK
  repeat' split
  all_goals omega

theorem targetR_in {how s : List UInt8} {o : OpD} (h : targetR how s = some o) (hs : s.length + 1 ≤ 100000) : LnB o := by
  have hd : (s.drop 1).length ≤ s.length := by rw [List.length_drop]; omega
  unfold targetR at h
  split at h
  · exact uploadR_in h
  · split at h
    · cases h
    · split at h
      · rename_i b rest hm
        split at hm
        · have := untilR_len hm
          exact listingR_in h (by omega) (by omega)
        · cases hm
      · split at h
        · split at h
          · cases h
            constructor <;> simp [opZero] <;> omega
          · split at h
            · cases h
              constructor <;> simp [opZero] <;> omega
            · cases h
        · rename_i b rest hm
          have e := untilR_len hm
          split at h
          · cases h
          · rename_i k hk
            have := unesc_len hk
            split at h
            · cases h
            · rename_i h0
              cases h
              have := kindK_in how
              exact ⟨by simp only; omega, by simp only; omega, by simp only; omega, by simp only; omega, by simp [opZero], by simp [opZero], by simp [opZero], by simp [opZero], by simp [opZero]⟩

theorem openedR_in {s : List UInt8} {o : OpD} {len : List UInt8} (h : openedR s = some (o, len)) (hs : s.length + 1 ≤ 100000) : LnB o ∧ len.length ≤ 100000 := by
  unfold openedR at h
  split at h
  · cases h
  · rename_i first rest h1
    have e1 := untilR_len h1
    split at h
    · cases h
    · rename_i how t h2
      have e2 := untilR_len h2
      split at h
      · cases h
      · rename_i o' h3
        have e3 := targetR_in h3 (by omega)
        split at h
        · cases h
        · rename_i id r2 h4
          have e4 := untilR_len h4
          split at h
          · cases h
          · rename_i len' r3 h5
            have e5 := untilR_len h5
            split at h
            · cases hu : unhex id with
              | none => rw [hu] at h; cases h
              | some u =>
                rw [hu] at h
                cases h
                exact ⟨⟨e3.k1, e3.k2, e3.b, e3.k, e3.a, e3.n1, e3.n2, e3.pl, e3.ps⟩, by omega⟩
            · cases h
end Go.Front

/- The one response whose bytes these are; what the readers make of it. -/
namespace Go.Front
open Go.Lib

open Classical in
/-- The response whose bytes these are. -/
noncomputable def parseRes (b : List UInt8) : Option (Nat × ResD) := if h : ∃ p : Nat × ResD, IsRes b p.1 p.2 then some h.choose else none

theorem parseRes_some {b : List UInt8} {id : Nat} {r : ResD} (h : IsRes b id r) : parseRes b = some (id, r) := by
  unfold parseRes
  have he : ∃ p : Nat × ResD, IsRes b p.1 p.2 := ⟨(id, r), h⟩
  rw [dif_pos he]
  have h2 := he.choose_spec.one h
  exact congrArg some (Prod.ext h2.1 h2.2)

theorem parseRes_none {b : List UInt8} (h : ∀ id r, ¬ IsRes b id r) : parseRes b = none := by
  unfold parseRes
  rw [dif_neg (fun ⟨p, hp⟩ => h _ _ hp)]

theorem parseRes_is {b : List UInt8} {id : Nat} {r : ResD} (h : parseRes b = some (id, r)) : IsRes b id r := by
  unfold parseRes at h
  split at h
  · rename_i he
    have h2 := he.choose_spec
    rw [Option.some.inj h] at h2
    exact h2
  · cases h

theorem isRes_iff {b : List UInt8} {id : Nat} {r : ResD} (hi : id < 2 ^ 64) (hu : r.upload < 2 ^ 64) : IsRes b id r ↔ printR id r = some b := by
  unfold printR
  constructor
  · intro h
    rw [if_pos h.right, h.eq]
  · intro h
    split at h
    · rename_i hr
      exact ⟨hr, hi, hu, (Option.some.inj h).symm⟩
    · cases h

theorem parse_prog {b hd tl : List UInt8} (hb : b = hd ++ crlf2 ++ tl) (hi : index b crlf2 = hd.length) {st : Int} {id' up : Nat} {r' : ResD} (hid : id' < 2 ^ 64) (hup : up < 2 ^ 64)
    (h1 : ∀ m : Nat, m ≤ 1000 → fieldP nGlc (Lib.split hd [13, 10]) = decF m → st = m) (h2 : ∀ u, u < 2 ^ 64 → fieldP nId (Lib.split hd [13, 10]) = hex16 u → id' = u) (h3 : ∀ u, u < 2 ^ 64 → fieldP nUp (Lib.split hd [13, 10]) = hex16 u → up = u) (h4 : fieldP nUp (Lib.split hd [13, 10]) = [] → up = 0)
    (hr : r' = ⟨st, up, if fieldP nKeys (Lib.split hd [13, 10]) = [] then [] else keysP tl, decide (fieldP nMore (Lib.split hd [13, 10]) = yesL), if fieldP nKeys (Lib.split hd [13, 10]) = [] then tl else []⟩) :
    parseRes b = if printR id' r' = some b then some (id', r') else none := by
  have hu' : r'.upload < 2 ^ 64 := by rw [hr]; exact hup
  split
  · rename_i h
    exact parseRes_some ((isRes_iff hid hu').2 h)
  · rename_i h
    refine parseRes_none fun id r hI => h ?_
    obtain ⟨e1, e2⟩ := hI.prog hb hi h1 h2 h3 h4
    rw [hr, e1, e2]
    exact (isRes_iff hI.idOk hI.upOk).1 hI

theorem parse_no {b : List UInt8} (h : index b crlf2 = -1) : parseRes b = none :=
  parseRes_none fun id r hI => by
    have := hI.pos
    omega

theorem parse_long {b hd tl : List UInt8} (hb : b = hd ++ crlf2 ++ tl) (hi : index b crlf2 = hd.length) (h : 200 < hd.length) (hl : b.length < 10 ^ 19) : parseRes b = none :=
  parseRes_none fun id r hI => by
    obtain ⟨e1, e2⟩ := hI.head hb hi
    have h2 := head_short id r hI.right (by
      rw [← e2]
      have := congrArg List.length hb
      simp only [List.length_append] at this
      omega)
    rw [← e1] at h2
    omega

theorem parse_doc_no {b hd tl : List UInt8} (hb : b = hd ++ crlf2 ++ tl) (hi : index b crlf2 = hd.length) {v s : List UInt8} (e1 : fieldR (hd ++ crlf2) nGlc = (v, s, false)) : parseRes b = none :=
  parseRes_none fun id r hI => by
    obtain ⟨h1, h2⟩ := hI.head hb hi
    rw [h1] at e1
    unfold headR at e1
    rw [docs_glc] at e1
    simp at e1

theorem parse_doc {b hd tl : List UInt8} (hb : b = hd ++ crlf2 ++ tl) (hi : index b crlf2 = hd.length) {v1 s1 v2 s2 v3 s3 v4 s4 v5 s5 : List UInt8} {o2 o3 o4 o5 good : Bool}
    (e1 : fieldR (hd ++ crlf2) nGlc = (v1, s1, true)) (e2 : fieldR s1 nId = (v2, s2, o2)) (e3 : fieldR s2 nUp = (v3, s3, o3)) (e4 : fieldR s3 nMore = (v4, s4, o4)) (e5 : fieldR s4 nKeys = (v5, s5, o5))
    {id' : Nat} {r' : ResD} (hid : id' < 2 ^ 64) (hup : r'.upload < 2 ^ 64)
    (h1 : ∀ m : Nat, m ≤ 1000 → v1 = decF m → r'.status = m) (h2 : ∀ u, u < 2 ^ 64 → v2 = hex16 u → id' = u) (h3 : o3 = true → ∀ u, u < 2 ^ 64 → v3 = hex16 u → r'.upload = u) (h3' : o3 = false → r'.upload = 0)
    (h4 : r'.more = o4) (h5 : o5 = false → r'.keys = [] ∧ r'.data = tl ∧ good = true) (h5' : o5 = true → ∀ l, l.length ≤ 1000 → v5 = decF l.length → linedR tl = some l → r'.keys = l ∧ r'.data = [] ∧ good = true) :
    parseRes b = if good = true ∧ printR id' r' = some b then some (id', r') else none := by
  split
  · rename_i h
    exact parseRes_some ((isRes_iff hid hup).2 h.2)
  · rename_i h
    refine parseRes_none fun id r hI => h ?_
    obtain ⟨g1, g2⟩ := hI.head hb hi
    rw [g1] at e1
    unfold headR at e1
    rw [docs_glc] at e1
    simp only [Prod.mk.injEq, and_true] at e1
    obtain ⟨c1, c2⟩ := e1
    rw [← c2, docs_id] at e2
    simp only [Prod.mk.injEq] at e2
    obtain ⟨c3, c4, _⟩ := e2
    rw [← c4, docs_up] at e3
    have k1 := known_dec hI.right
    have hst := h1 _ (by omega) c1.symm
    have hidq := h2 _ hI.idOk c3.symm
    have hupq : r'.upload = r.upload ∧ s3 = rests (tailU r (bodyR r).length) ++ [13, 10] := by
      by_cases g : r.upload ≠ 0
      · rw [if_pos g] at e3
        simp only [Prod.mk.injEq] at e3
        exact ⟨h3 e3.2.2.symm _ hI.upOk e3.1.symm, e3.2.1.symm⟩
      · rw [if_neg g] at e3
        simp only [Prod.mk.injEq] at e3
        simp only [ne_eq, Decidable.not_not] at g
        exact ⟨(h3' e3.2.2.symm).trans g.symm, e3.2.1.symm⟩
    rw [hupq.2, docs_more] at e4
    have hmq : r'.more = r.more ∧ s4 = rests (tailM r (bodyR r).length) ++ [13, 10] := by
      cases g : r.more with
      | true =>
        rw [g, if_pos rfl] at e4
        simp only [Prod.mk.injEq] at e4
        exact ⟨h4.trans e4.2.2.symm, e4.2.1.symm⟩
      | false =>
        rw [g, if_neg (by simp)] at e4
        simp only [Prod.mk.injEq] at e4
        exact ⟨h4.trans e4.2.2.symm, e4.2.1.symm⟩
    rw [hmq.2, docs_keys] at e5
    have hkq : r'.keys = r.keys ∧ r'.data = r.data ∧ good = true := by
      have hk2 := right_keys hI.right
      by_cases g : r.keys = []
      · rw [if_neg (by simp [g])] at e5
        simp only [Prod.mk.injEq] at e5
        obtain ⟨a1, a2, a3⟩ := h5 e5.2.2.symm
        refine ⟨a1.trans g.symm, ?_, a3⟩
        rw [a2, g2]
        simp [bodyR, g]
      · rw [if_pos g] at e5
        simp only [Prod.mk.injEq] at e5
        have hd0 : r.data = [] := hk2.1.resolve_left g
        have hbk : bodyR r = r.keys.flatMap fun k => esc k ++ [10] := by simp [bodyR, hd0]
        obtain ⟨a1, a2, a3⟩ := h5' e5.2.2.symm r.keys hk2.2.1 e5.1.symm (by rw [g2, hbk]; exact linedR_keys _)
        exact ⟨a1, a2.trans hd0.symm, a3⟩
    have hr : r' = r := by
      obtain ⟨s, u, k, m, d⟩ := r
      obtain ⟨s', u', k', m', d'⟩ := r'
      simp only at hst hupq hmq hkq k1
      rw [hst, k1.1, hupq.1, hmq.1, hkq.1, hkq.2.1]
    refine ⟨hkq.2.2, ?_⟩
    rw [hidq, hr]
    exact (isRes_iff hI.idOk hI.upOk).1 hI
end Go.Front

/- The chapter's first example, as bytes; plain facts of the laws. -/
namespace Go.Front
open Go.Lib

def exOp : OpD := ⟨10, 4, [98], [97, 47, 195, 169], [], 0, 0, [], []⟩
/-- The bytes of the example. -/
def exB : List UInt8 := [71, 69, 84, 32, 47, 98, 47, 97, 37, 50, 70, 37, 67, 51, 37, 65, 57, 32, 71, 76, 67, 47, 49, 13, 10, 105, 100, 58, 32, 48, 48, 48, 48, 48, 48, 48, 48, 48, 48, 48, 48, 48, 48, 48, 97, 13, 10, 108, 101, 110, 103, 116, 104, 58, 32, 48, 13, 10, 13, 10]

theorem ex_right : right exOp = true := by decide +kernel
theorem dec_zero : decF 0 = [48] := by show Lib.decDigits 0 = _; rw [Lib.decDigits, dif_pos (by omega)]; rfl
theorem ex_head : headD exOp (decF exOp.data.length) ++ exOp.data = exB := by
  show headD exOp (decF 0) ++ [] = exB
  rw [dec_zero]
  decide +kernel
theorem ex_wf : Wf exOp := by
  constructor <;> decide
theorem ex_parse : parseP exB = (exOp, 200) := by rw [← ex_head]; exact parse_print ex_right ex_wf
end Go.Front

/- Keys that rise, place by place. -/
namespace Go.Front
open Go.Lib

theorem keysF_iff : ∀ l : List (List UInt8), keysF l = true ↔ ∀ i k, l[i]? = some k → keyB k = true ∧ ∀ p, 0 < i → l[i - 1]? = some p → Op.bytesLess p k = true
  | [] => by simp [keysF]
  | [k] => by
    rw [keysF]
    constructor
    · intro h i x hx
      match i, hx with
      | 0, hx => cases hx; exact ⟨h, fun p hp => absurd hp (Nat.lt_irrefl 0)⟩
      | i + 1, hx => cases hx
    · intro h
      exact (h 0 k rfl).1
  | k :: x :: l => by
    rw [keysF, Bool.and_eq_true, Bool.and_eq_true, keysF_iff (x :: l)]
    constructor
    · rintro ⟨⟨h1, h2⟩, h3⟩ i y hy
      match i, hy with
      | 0, hy => cases hy; exact ⟨h1, fun p hp => absurd hp (Nat.lt_irrefl 0)⟩
      | 1, hy => cases hy; exact ⟨(h3 0 x rfl).1, fun p _ hp => by cases hp; exact h2⟩
      | i + 2, hy =>
        obtain ⟨h4, h5⟩ := h3 (i + 1) y hy
        exact ⟨h4, fun p _ hp => h5 p (Nat.succ_pos _) hp⟩
    · intro h
      refine ⟨⟨(h 0 k rfl).1, (h 1 x rfl).2 k Nat.one_pos rfl⟩, fun i y hy => ?_⟩
      obtain ⟨h1, h2⟩ := h (i + 1) y hy
      refine ⟨h1, fun p hi hp => h2 p (Nat.succ_pos _) ?_⟩
      obtain ⟨j, rfl⟩ : ∃ j, i = j + 1 := ⟨i - 1, by omega⟩
      exact hp

/-- The first i keys stand well. -/
def KeysTo (l : List (List UInt8)) (i : Nat) : Prop := ∀ j k, j < i → l[j]? = some k → keyB k = true ∧ ∀ p, 0 < j → l[j - 1]? = some p → Op.bytesLess p k = true

theorem keysTo_all {l : List (List UInt8)} (h : KeysTo l l.length) : keysF l = true := (keysF_iff l).2 fun i k hk => h i k (by
  rcases Nat.lt_or_ge i l.length with h | h
  · exact h
  · rw [List.getElem?_eq_none h] at hk; cases hk) hk

theorem keysTo_step {l : List (List UInt8)} {i : Nat} {k : List UInt8} (h : KeysTo l i) (hk : l[i]? = some k) (h1 : keyB k = true) (h2 : ∀ p, 0 < i → l[i - 1]? = some p → Op.bytesLess p k = true) : KeysTo l (i + 1) := by
  intro j x hj hx
  rcases Nat.lt_succ_iff_lt_or_eq.1 hj with h3 | h3
  · exact h j x h3 hx
  · subst h3
    rw [hk] at hx
    cases hx
    exact ⟨h1, h2⟩

theorem keysF_not {l : List (List UInt8)} {i : Nat} {k : List UInt8} (hk : l[i]? = some k) (h : keyB k = false ∨ ∃ p, 0 < i ∧ l[i - 1]? = some p ∧ Op.bytesLess p k = false) : keysF l = false := by
  cases hf : keysF l with
  | false => rfl
  | true =>
    have h2 := (keysF_iff l).1 hf i k hk
    rcases h with h | ⟨p, h3, h4, h5⟩
    · rw [h] at h2; cases h2.1
    · rw [h2.2 p h3 h4] at h5; cases h5
end Go.Front
