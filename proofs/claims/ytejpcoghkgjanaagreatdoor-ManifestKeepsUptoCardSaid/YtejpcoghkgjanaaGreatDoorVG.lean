/- Merged out of K0, K1, E4, KD, K2: helpers. -/
import Derived.Test.YtejpcoghkgjanaaGreatDoorVF
import Derived.Shelf.Strconv.Itoa3
import Derived.Shelf.Strconv.Atoi
import Derived.Shelf.Strings.Prefix
import Derived.Lib.AtoiErrMem
import Derived.Test.YtejpcoghkgjanaaGreatDoorVE
import Derived.Test.YtejpcoghkgjanaaGreatDoorVC
/- Digits; the names of the manifests, of the tables, of the file current. -/
namespace Go.Proofs.YtejpcoghkgjanaaGreatDoor
open Go.RowKit Go.Gl Go.Wal Go.Sort

def Nums (N B : Nat) (w : World) : Prop := ∀ n : Nat, n < N → ∀ W : World, (∀ b, b < B → W.heap[b]? = w.heap[b]?) → Calls Tryz.prog 61 #[.int .i64 n] W fun e w' => e = .returned (.string ⟨(Lib.decDigits n).toArray⟩) ∧ Grow W w'

theorem nums_small (B : Nat) (w : World) : Nums 100 B w := fun n hn W _ => (Any.strconv_Itoa_small Tryz.itoa n hn W).mono (by rintro e w' ⟨rfl, rfl⟩; exact ⟨rfl, Grow.refl _⟩)

theorem Nums.keep {N B : Nat} {w w' : World} (h : Nums N B w) (hk : ∀ b, b < B → w'.heap[b]? = w.heap[b]?) : Nums N B w' := fun n hn W hW => h n hn W (fun b hb => (hW b hb).trans (hk b hb))

def padD (n : Nat) : List UInt8 := List.replicate (6 - (Lib.decDigits n).length) 48 ++ Lib.decDigits n

theorem ba_append (x y : List UInt8) : (⟨x.toArray⟩ : ByteArray) ++ ⟨y.toArray⟩ = ⟨(x ++ y).toArray⟩ := by
  apply ByteArray.ext
  simp

def SgInv (w : World) (n : Nat) (sv : Value) (wr : World) : Prop := ∃ k : Nat, sv = .string ⟨(List.replicate k 48 ++ Lib.decDigits n).toArray⟩ ∧ (k = 0 ∨ k + (Lib.decDigits n).length ≤ 6) ∧ Grow w wr

theorem digits_small {n : Nat} (h : n < 1000000) : (Lib.decDigits n).length ≤ 6 := by
  have h0 : ∀ m, (Lib.decDigits m).length = if m < 10 then 1 else (Lib.decDigits (m / 10)).length + 1 := fun m => by
    rw [Lib.decDigits]; split
    · simp
    · simp
  rw [h0]; split; · omega
  rw [h0]; split; · omega
  rw [h0]; split; · omega
  rw [h0]; split; · omega
  rw [h0]; split; · omega
  rw [h0, if_pos (by omega)]; decide

theorem Nums.grow {N B : Nat} {w w' : World} (h : Nums N B w) (hg : Grow w w') (hB : B ≤ w.heap.size) : Nums N B w' := h.keep (fun b hb => hg.block b (by omega))

theorem dig_ok (n : Nat) : ∀ c ∈ Lib.decDigits n, 48 ≤ c.toNat ∧ c.toNat ≤ 57 := by
  induction n using Nat.strongRecOn with
  | _ n ih =>
    rw [Lib.decDigits]
    split
    · intro c hc
      rw [List.mem_singleton] at hc
      subst hc
      simp only [UInt8.toNat_ofNat']
      omega
    · intro c hc
      rcases List.mem_append.1 hc with h | h
      · exact ih (n / 10) (by omega) c h
      · rw [List.mem_singleton] at h
        subst h
        simp only [UInt8.toNat_ofNat']
        omega

theorem padD_len {n : Nat} (h : n < 1000000) : (padD n).length = 6 := by
  have := digits_small h
  simp [padD]; omega

theorem nameOk_list {l : List UInt8} (h1 : 1 ≤ l.length) (h2 : l.length ≤ 64) (h : ∀ c ∈ l, okc c = true) : NameOk ⟨l.toArray⟩ := by
  refine ⟨by simpa [ByteArray.size] using h1, by simpa [ByteArray.size] using h2, fun i hi => h _ ?_⟩
  have hi' : i < l.length := by simpa [ByteArray.size] using hi
  have : (⟨l.toArray⟩ : ByteArray)[i] = l[i] := rfl
  rw [this]
  exact List.getElem_mem hi'

theorem okc_digit {c : UInt8} (h : 48 ≤ c.toNat ∧ c.toNat ≤ 57) : okc c = true := by simp [okc, h.1, h.2]

theorem decFrom_append (x y : List UInt8) : ∀ acc, Lib.decFrom acc (x ++ y) = (Lib.decFrom acc x).bind fun a => Lib.decFrom a y := by
  induction x with
  | nil => intro acc; rfl
  | cons b r ih =>
    intro acc
    simp only [List.cons_append, Lib.decFrom]
    cases Lib.digitVal b with
    | none => rfl
    | some d => simp only [ih]; try rfl

theorem digit_val {k : Nat} (h : k < 10) : Lib.digitVal (UInt8.ofNat (48 + k)) = some k := by
  have : k = 0 ∨ k = 1 ∨ k = 2 ∨ k = 3 ∨ k = 4 ∨ k = 5 ∨ k = 6 ∨ k = 7 ∨ k = 8 ∨ k = 9 := by omega
  rcases this with rfl | rfl | rfl | rfl | rfl | rfl | rfl | rfl | rfl | rfl <;> decide

theorem dec_digits (n : Nat) : Lib.decFrom 0 (Lib.decDigits n) = some n := by
  induction n using Nat.strongRecOn with
  | _ n ih =>
    rw [Lib.decDigits]
    split
    · rename_i h
      simp only [Lib.decFrom, digit_val h]; congr 1; omega
    · rename_i h
      rw [decFrom_append, ih (n / 10) (by omega)]
      simp only [Option.bind_some, Lib.decFrom, digit_val (Nat.mod_lt n (by omega : 10 > 0))]
      congr 1
      omega

theorem dec_zeros (k : Nat) (l : List UInt8) : Lib.decFrom 0 (List.replicate k 48 ++ l) = Lib.decFrom 0 l := by
  induction k with
  | zero => rfl
  | succ k ih =>
    rw [List.replicate_succ, List.cons_append, Lib.decFrom, show Lib.digitVal 48 = some 0 by decide]
    simpa using ih

theorem dec_pad (n : Nat) : Lib.decFrom 0 (padD n) = some n := by rw [padD, dec_zeros, dec_digits]

theorem atoi_pad {n : Nat} (h : n < 1000000) : Lib.atoi (padD n) = some (n : Int) := by
  have hl := padD_len h
  have hd := dec_pad n
  have hall : ∀ c ∈ padD n, 48 ≤ c.toNat := fun c hc => by
    rcases List.mem_append.1 hc with hc | hc
    · rw [(List.mem_replicate.1 hc).2]; decide
    · exact (dig_ok n c hc).1
  cases hp : padD n with
  | nil => rw [hp] at hl; cases hl
  | cons b r =>
    have hb := hall b (by rw [hp]; exact List.mem_cons_self ..)
    have h1 : (b == 45) = false := by
      cases hx : b == 45 with
      | false => rfl
      | true => rw [eq_of_beq hx] at hb; exact absurd hb (by decide)
    have h2 : (b == 43) = false := by
      cases hx : b == 43 with
      | false => rfl
      | true => rw [eq_of_beq hx] at hb; exact absurd hb (by decide)
    rw [hp] at hd
    simp [Lib.atoi, h1, h2, Lib.decNat, hd]

theorem atoi_call {n : Nat} (h : n < 1000000) (w : World) : Calls Tryz.prog 18 #[.string ⟨(padD n).toArray⟩] w fun e w' => e = .returned (.tuple #[.int .i64 n, .nilIface]) ∧ Grow w w' := by
  have hl := padD_len h
  refine (Any.strconv_Atoi Tryz.atoi ⟨(padD n).toArray⟩ n (by simp [ByteArray.size, hl]) (by simpa using atoi_pad h) w).mono ?_
  rintro e w' ⟨rfl, t, rfl⟩
  exact ⟨rfl, Lib.bytesWorld_below w _ t⟩

theorem trimP_any (s p : ByteArray) (w : World) : Calls Tryz.prog 19 #[.string s, .string p] w fun e w' => e = .returned (.string ⟨(Lib.trimPrefix s.data.toList p.data.toList).toArray⟩) ∧ w' = w := Any.strings_TrimPrefix Tryz.trimP s p w

theorem atoi_digits (n : Nat) : Lib.atoi (Lib.decDigits n) = some (n : Int) := by
  have hd := dec_digits n
  have hall := dig_ok n
  have hne : Lib.decDigits n ≠ [] := by
    rw [Lib.decDigits]; split <;> simp
  cases hp : Lib.decDigits n with
  | nil => exact absurd hp hne
  | cons b r =>
    have hb := (hall b (by rw [hp]; exact List.mem_cons_self ..)).1
    have h1 : (b == 45) = false := by
      cases hx : b == 45 with
      | false => rfl
      | true => rw [eq_of_beq hx] at hb; exact absurd hb (by decide)
    have h2 : (b == 43) = false := by
      cases hx : b == 43 with
      | false => rfl
      | true => rw [eq_of_beq hx] at hb; exact absurd hb (by decide)
    rw [hp] at hd
    simp [Lib.atoi, h1, h2, Lib.decNat, hd]

theorem atoi_dig {n : Nat} (h : n < 1000000) (w : World) : Calls Tryz.prog 18 #[.string ⟨(Lib.decDigits n).toArray⟩] w fun e w' => e = .returned (.tuple #[.int .i64 n, .nilIface]) ∧ Grow w w' := by
  have hl := digits_small h
  refine (Any.strconv_Atoi Tryz.atoi ⟨(Lib.decDigits n).toArray⟩ n (by simp [ByteArray.size]; omega) (by simpa using atoi_digits n) w).mono ?_
  rintro e w' ⟨rfl, t, rfl⟩
  exact ⟨rfl, Lib.bytesWorld_below w _ t⟩

abbrev mPre : List UInt8 := [109, 97, 110, 105, 102, 101, 115, 116, 45]
/-- The file of a manifest; the file current; the one ahead of it; a table's file. -/
def manN (n : Nat) : ByteArray := ⟨(mPre ++ padD n).toArray⟩
abbrev curN : ByteArray := ⟨#[99, 117, 114, 114, 101, 110, 116]⟩
abbrev ctmpN : ByteArray := ⟨#[99, 117, 114, 114, 101, 110, 116, 46, 116, 109, 112]⟩
def tabN (n : Nat) : ByteArray := ⟨(([116, 45] : List UInt8) ++ padD n).toArray⟩

theorem manN_inj {m n : Nat} (h : manN m = manN n) : m = n := by
  have h1 : mPre ++ padD m = mPre ++ padD n := by
    have := congrArg (fun b : ByteArray => b.data.toList) h
    simpa [manN] using this
  have h2 : padD m = padD n := List.append_cancel_left h1
  have h3 := dec_pad m
  rw [h2, dec_pad n] at h3
  cases h3; rfl
theorem cur_tmp : curN ≠ ctmpN := by decide
theorem man_cur (n : Nat) : manN n ≠ curN := by
  intro h
  have := congrArg (fun b : ByteArray => b.data.toList) h
  simp [manN] at this
theorem man_tmp (n : Nat) : manN n ≠ ctmpN := by
  intro h
  have := congrArg (fun b : ByteArray => b.data.toList) h
  simp [manN] at this
theorem cur_ok : NameOk curN := nameOk_list (l := [99, 117, 114, 114, 101, 110, 116]) (by decide) (by decide) (by decide)
theorem ctmp_ok : NameOk ctmpN := nameOk_list (l := [99, 117, 114, 114, 101, 110, 116, 46, 116, 109, 112]) (by decide) (by decide) (by decide)
theorem man_ok {n : Nat} (h : n < 1000000) : NameOk (manN n) := by
  have hl := padD_len h
  refine nameOk_list (by simp) (by simp [hl]) ?_
  intro c hc
  rcases List.mem_append.1 hc with hc | hc
  · exact (by decide : ∀ c ∈ mPre, okc c = true) c hc
  · rcases List.mem_append.1 hc with hc | hc
    · rw [(List.mem_replicate.1 hc).2]; decide
    · exact okc_digit (dig_ok n c hc)

set_option maxRecDepth 100000 in
set_option maxHeartbeats 4000000 in
theorem six_any {N B : Nat} {w : World} (h : Nums N B w) {n : Nat} (hn : n < N) (h6 : n < 1000000) :
    Calls Tryz.prog 31 #[.int .i64 n] w fun e w' => e = .returned (.string ⟨(padD n).toArray⟩) ∧ Grow w w' := by
  have hd := digits_small h6
  have Hi := Lib.hid (h n hn w (fun _ _ => rfl))
  clear h
  go_enter Tryz.func31, Tryz.ntmps31
  go_wp2_with fail
  (with_reducible refine Hi.out.mono ?_)
  rintro e w1 ⟨rfl, hg1⟩
  have Hg1 := Lib.hid hg1
  clear hg1
  go_wp2_with fail
  go_loopw [3] (fun sv wr => SgInv w n sv wr) (fun sv _ => 6 - (match sv with | .string s => s.size | _ => 0))
  case atStart => exact ⟨0, by simp, .inl rfl, Hg1.out⟩
  case round =>
    obtain ⟨k, rfl, hk, hg⟩ := hrel
    have Hg := Lib.hid hg
    clear hg
    have hsz : (⟨(List.replicate k 48 ++ Lib.decDigits n).toArray⟩ : ByteArray).size = k + (Lib.decDigits n).length := by simp [ByteArray.size]
    by_cases hlt : k + (Lib.decDigits n).length < 6
    · have e1 : (k : Int) + ((Lib.decDigits n).length : Int) < 6 := by omega
      have e3 : ¬ 9223372036854775807 < 1 + (k + (Lib.decDigits n).length) := by omega
      go_wp2
      go_roundw
      case rel =>
        refine ⟨k + 1, ?_, .inr (by omega), Hg.out⟩
        rw [show (⟨#[48]⟩ : ByteArray) = ⟨([48] : List UInt8).toArray⟩ from rfl, ba_append, List.replicate_succ]; rfl
      case measure =>
        rw [show (⟨#[48]⟩ : ByteArray) = ⟨([48] : List UInt8).toArray⟩ from rfl, ba_append]
        simp only [ByteArray.size, List.size_toArray, List.length_append, List.length_replicate, List.length_cons, List.length_nil]
        omega
    · have e1' : decide ((k : Int) + ((Lib.decDigits n).length : Int) < 6) = false := by simp; omega
      have hk6 : k = 6 - (Lib.decDigits n).length := by omega
      have Hk6 := Lib.hid hk6
      clear hk6
      go_wp2
      go_ret
      refine ⟨?_, Hg.out⟩
      rw [padD, ← Hk6.out]
      rfl

theorem mname_any {N B : Nat} {w : World} (h : Nums N B w) {n : Nat} (hn : n < N) (h6 : n < 1000000) :
    Calls Tryz.prog 20 #[.int .i64 n] w fun e w' => e = .returned (.string (manN n)) ∧ Grow w w' := by
  have Hi := Lib.hid (six_any h hn h6)
  have hl := padD_len h6
  have e3 : ¬ 9223372036854775807 < 9 + (padD n).length := by omega
  clear h
  go_enter Tryz.func20, Tryz.ntmps20
  go_wp2_with fail
  (with_reducible refine Hi.out.mono ?_)
  rintro e w1 ⟨rfl, hg1⟩
  go_wp2
  go_ret
  exact ⟨by rw [show (⟨#[109, 97, 110, 105, 102, 101, 115, 116, 45]⟩ : ByteArray) = ⟨(mPre : List UInt8).toArray⟩ from rfl, ba_append]; rfl, hg1⟩
end Go.Proofs.YtejpcoghkgjanaaGreatDoor

/- A disk's view: how many bytes it holds after each operation. -/
namespace Go.Proofs.YtejpcoghkgjanaaGreatDoor
open Go.RowKit Go.Gl Go.Wal Go.Sort

def NamesV (V : Vw) : Prop := (V.map (·.1)).Nodup

theorem NamesV.tail {e : ByteArray × List UInt8 × Nat} {V : Vw} (h : NamesV (e :: V)) : NamesV V := (List.nodup_cons.1 h).2
theorem NamesV.head {e : ByteArray × List UInt8 × Nat} {V : Vw} (h : NamesV (e :: V)) : ∀ g ∈ V, g.1 ≠ e.1 := fun g hg he => (List.nodup_cons.1 h).1 (List.mem_map.2 ⟨g, hg, he⟩)

theorem tot_cons (e : ByteArray × List UInt8 × Nat) (V : Vw) : tot (e :: V) = e.2.1.length + tot V := by simp [tot]

theorem look_cons (n : ByteArray) (e : ByteArray × List UInt8 × Nat) (V : Vw) : lookV n (e :: V) = if n = e.1 then some e.2 else lookV n V := by
  unfold lookV
  rw [List.find?_cons]
  by_cases h : n = e.1 <;> simp [h]

theorem map_off {V : Vw} {n : ByteArray} (h : ∀ g ∈ V, g.1 ≠ n) (k : ByteArray × List UInt8 × Nat → ByteArray × List UInt8 × Nat) : (V.map fun e => if e.1 = n then k e else e) = V := by
  induction V with
  | nil => rfl
  | cons e V ih => rw [List.map_cons, if_neg (h e (List.mem_cons_self ..)), ih (fun g hg => h g (List.mem_cons_of_mem _ hg))]

theorem tot_map {V : Vw} (hV : NamesV V) {n : ByteArray} {b0 : List UInt8} {s0 : Nat} (h : lookV n V = some (b0, s0)) (k : ByteArray × List UInt8 × Nat → ByteArray × List UInt8 × Nat) :
    tot (V.map fun e => if e.1 = n then k e else e) + b0.length = tot V + (k (n, b0, s0)).2.1.length := by
  induction V with
  | nil => cases h
  | cons e V ih =>
    rw [look_cons] at h
    rw [List.map_cons, tot_cons, tot_cons]
    by_cases hn : n = e.1
    · rw [if_pos hn] at h
      have he : e = (n, b0, s0) := by obtain ⟨e1, e2⟩ := e; cases h; cases hn; rfl
      rw [if_pos hn.symm, map_off (fun g hg => hn ▸ hV.head g hg)]
      subst he
      simp only
      omega
    · rw [if_neg hn] at h
      rw [if_neg (fun x => hn x.symm)]
      have := ih hV.tail h
      omega

theorem tot_syn (n : ByteArray) (V : Vw) : tot (synV n V) = tot V := by
  unfold tot synV
  rw [List.map_map]
  congr 1
  apply List.map_congr_left
  intro e _
  simp only [Function.comp]
  split <;> rfl

theorem any_look {n : ByteArray} {V : Vw} : V.any (fun e => decide (e.1 = n)) = (lookV n V).isSome := by
  induction V with
  | nil => rfl
  | cons e V ih =>
    rw [List.any_cons, look_cons, ih]
    by_cases h : n = e.1
    · simp [h]
    · have : ¬ e.1 = n := fun x => h x.symm
      simp [h, this]

theorem tot_app {V : Vw} (hV : NamesV V) (n : ByteArray) (x : List UInt8) : tot (appV n x V) = tot V + x.length := by
  unfold appV
  rw [any_look]
  cases h : lookV n V with
  | none => simp [tot]
  | some q =>
    obtain ⟨b0, s0⟩ := q
    rw [if_pos (show (some (b0, s0)).isSome = true from rfl)]
    have := tot_map hV h (fun e => (e.1, e.2.1 ++ x, e.2.2))
    simp only [List.length_append] at this
    omega

theorem tot_del {V : Vw} (hV : NamesV V) {n : ByteArray} {b0 : List UInt8} {s0 : Nat} (h : lookV n V = some (b0, s0)) : tot (delV n V) + b0.length = tot V := by
  induction V with
  | nil => cases h
  | cons e V ih =>
    rw [look_cons] at h
    unfold delV
    by_cases hn : n = e.1
    · rw [if_pos hn] at h
      rw [List.filter_cons_of_neg (by simp [hn]), List.filter_eq_self.2 (fun g hg => by have := hV.head g hg; simp [hn]; exact fun x => this x.symm), tot_cons]
      obtain ⟨e1, e2⟩ := e; cases h; simp only; omega
    · rw [if_neg hn] at h
      rw [List.filter_cons_of_pos (by simp [hn]), tot_cons, tot_cons]
      have := ih hV.tail h
      unfold delV at this
      omega

theorem look_del {V : Vw} {m n : ByteArray} (h : m ≠ n) : lookV n (delV m V) = lookV n V := by
  induction V with
  | nil => rfl
  | cons e V ih =>
    unfold delV at ih ⊢
    by_cases hm : m = e.1
    · rw [List.filter_cons_of_neg (by simp [hm]), ih, look_cons, if_neg (fun x => h (hm.trans x.symm))]
    · rw [List.filter_cons_of_pos (by simp [hm]), look_cons, look_cons, ih]

theorem tot_ren {V : Vw} (hV : NamesV V) {m n : ByteArray} (hmn : m ≠ n) {b b0 : List UInt8} {s s0 : Nat} (hm : lookV m V = some (b, s)) (hn : lookV n V = some (b0, s0)) : tot (renV m n b s V) + b0.length = tot V := by
  have h1 := tot_del hV hm
  have hd : NamesV (delV m V) := List.Nodup.sublist (List.filter_sublist.map _) hV
  have h2 := tot_map hd ((look_del hmn).trans hn) (fun e => (e.1, b, s))
  unfold renV
  simp only at h2
  omega

def setV (n : ByteArray) (x : List UInt8) (V : Vw) : Vw := V.map fun e => if e.1 = n then (e.1, x, x.length) else e

theorem app_new {n : ByteArray} {V : Vw} (h : lookV n V = none) (x : List UInt8) : appV n x V = V ++ [(n, x, 0)] := by
  unfold appV; rw [any_look, h]; rfl

theorem look_off {n : ByteArray} {V : Vw} (h : lookV n V = none) : ∀ g ∈ V, g.1 ≠ n := by
  induction V with
  | nil => intro g hg; cases hg
  | cons e V ih =>
    rw [look_cons] at h
    by_cases hn : n = e.1
    · rw [if_pos hn] at h; cases h
    · rw [if_neg hn] at h
      intro g hg
      rcases List.mem_cons.1 hg with rfl | hg
      · exact fun x => hn x.symm
      · exact ih h g hg

theorem look_last {n : ByteArray} {V : Vw} (h : lookV n V = none) (q : List UInt8 × Nat) : lookV n (V ++ [(n, q)]) = some q := by
  induction V with
  | nil => rw [List.nil_append, look_cons, if_pos rfl]
  | cons e V ih =>
    rw [look_cons] at h
    by_cases hn : n = e.1
    · rw [if_pos hn] at h; cases h
    · rw [if_neg hn] at h
      rw [List.cons_append, look_cons, if_neg hn, ih h]

theorem syn_new {n : ByteArray} {V : Vw} (h : lookV n V = none) (x : List UInt8) : synV n (V ++ [(n, x, 0)]) = V ++ [(n, x, x.length)] := by
  unfold synV
  rw [List.map_append, map_off (look_off h)]
  simp

theorem ren_new {m n : ByteArray} {V : Vw} (h : lookV m V = none) (x : List UInt8) : renV m n x x.length (V ++ [(m, x, x.length)]) = setV n x V := by
  unfold renV delV setV
  rw [List.filter_append, List.filter_eq_self.2 (fun g hg => by have := look_off h g hg; simp; exact fun x => this x.symm), List.filter_cons_of_neg (by simp), List.filter_nil, List.append_nil]

theorem look_app {m n : ByteArray} (hmn : n ≠ m) (V : Vw) (q : List UInt8 × Nat) : lookV n (V ++ [(m, q)]) = lookV n V := by
  induction V with
  | nil => rw [List.nil_append, look_cons, if_neg hmn]
  | cons e V ih => rw [List.cons_append, look_cons, look_cons, ih]

end Go.Proofs.YtejpcoghkgjanaaGreatDoor

/- A disk of Z bytes (1 << 24 at most) at the level of views. -/
namespace Go.Proofs.YtejpcoghkgjanaaGreatDoor
open Go.RowKit Go.Gl Go.Wal Go.Sort

def Dk (Z B : Nat) (w : World) (p r : Nat) (V : Vw) (F : Nat → Prop) : Prop := Z ≤ 1073741824 ∧ tot V ≤ Z ∧ ∃ (born : Int) (fs : List Fe), DiskAt B w p r Z (tot V) born fs ∧ vw fs = V ∧ Foot p r fs = F

def DkTo (Z B : Nat) (w : World) (p r : Nat) (F : Nat → Prop) (w' : World) (V' : Vw) : Prop := ∃ F', Dk Z B w' p r V' F' ∧ Sep F w w' F'

variable {Z B : Nat} {w w' : World} {p r : Nat} {V : Vw} {F : Nat → Prop}

theorem Dk.grow (h : Dk Z B w p r V F) (hg : Grow w w') : Dk Z B w' p r V F := by
  obtain ⟨hZ, h0, born, fs, h1, h2, h3⟩ := h
  exact ⟨hZ, h0, born, fs, h1.grow hg, h2, h3⟩

theorem names_vw (fs : List Fe) : (vw fs).map (·.1) = fs.map Fe.name := by simp [vw, Function.comp]

theorem Dk.names (h : Dk Z B w p r V F) : NamesV V := by
  obtain ⟨hZ, h0, born, fs, h1, rfl, h3⟩ := h
  unfold NamesV; rw [names_vw]; exact h1.names

theorem Dk.base (h : Dk Z B w p r V F) : B ≤ w.heap.size := by
  obtain ⟨hZ, h0, born, fs, h1, rfl, h3⟩ := h
  exact h1.base.2.2

theorem Dk.foot (h : Dk Z B w p r V F) {b : Nat} (hb : F b) : B ≤ b ∧ b < w.heap.size := by
  obtain ⟨hZ, h0, born, fs, h1, rfl, rfl⟩ := h
  exact h1.foot_lt hb

theorem Dk.apart (h : Dk Z B w p r V F) {b : Nat} {arr : Array Value} {t : TypeId} {f : Nat × Nat} (hb : w.heap[b]? = some (.cells arr t f)) (h1 : t ≠ 56) (h2 : t ≠ 77) (h3 : t ≠ 5) : ¬ F b := by
  obtain ⟨hZ, h0, born, fs, hd, rfl, rfl⟩ := h
  exact hd.apart hb h1 h2 h3

theorem file_len {fs : List Fe} {f : Fe} (hf : f ∈ fs) {Z : Nat} (h : tot (vw fs) ≤ Z) : f.b.length ≤ Z := Nat.le_trans (tot_mem hf) h

theorem dk_read (h : Dk Z B w p r V F) (n : ByteArray) : Calls Tryz.prog 32 #[.pointer (some ⟨p, 0, none⟩), .string n] w fun e w' =>
      (match lookV n V with
       | none => e = .returned (.tuple #[.slice none 0 0, .int .i64 4])
       | some (b, _) => ∃ v, e = .returned (.tuple #[v, .int .i64 0]) ∧ OwnB w.heap.size w' v b) ∧ Grow w w' := by
  obtain ⟨hZ, h0, born, fs, h1, rfl, rfl⟩ := h
  refine (read_any h1 n (fun f hf => by have := file_len hf h0; omega)).mono ?_
  rintro e w2 ⟨hm, hg⟩
  refine ⟨?_, hg⟩
  rw [lookV_file]
  cases hf : fileOf n fs with
  | none => rw [hf] at hm; exact hm
  | some f => rw [hf] at hm; exact hm

theorem dk_app (h : Dk Z B w p r V F) {n : ByteArray} (hn : NameOk n) {qb : Nat} {pv : Value} {x : List UInt8} (hq : w.heap[qb]? = some (.cells #[pv] 69 (0, 0))) (hx : Bv w pv x) (hroom : tot V + x.length ≤ Z) :
    Calls Tryz.prog 24 #[.pointer (some ⟨p, 0, none⟩), .string n, .slice (some ⟨qb, 0, none⟩) 1 1] w fun e w' => e = .returned (.int .i64 0) ∧ DkTo Z B w p r F w' (appV n x V) := by
  have hN := h.names
  obtain ⟨hZ, h0, born, fs, h1, rfl, rfl⟩ := h
  have key : Calls Tryz.prog 24 #[.pointer (some ⟨p, 0, none⟩), .string n, .slice (some ⟨qb, 0, none⟩) 1 1] w (AppPost B w p r Z (tot (vw fs)) born fs n x) := by
    cases hf : fileOf n fs with
    | none => exact append1_none h1 hf hn hq hx (by omega) (by omega) (by omega)
    | some f => exact append1_some h1 hf hn hq hx (by omega) (by omega) (by omega) (by have := file_len (fileOf_some hf).1 h0; omega)
  refine key.mono ?_
  rintro e w2 ⟨rfl, fs', hd, hs, hv⟩
  have ht := tot_app hN n x
  refine ⟨rfl, _, ⟨hZ, by omega, born, fs', ?_, hv, rfl⟩, hs⟩
  rw [ht, Int.natCast_add]; exact hd

theorem dk_app0 (h : Dk Z B w p r V F) {n : ByteArray} (hn : NameOk n) (hl : lookV n V = none) :
    Calls Tryz.prog 24 #[.pointer (some ⟨p, 0, none⟩), .string n, .slice none 0 0] w fun e w' => e = .returned (.int .i64 0) ∧ DkTo Z B w p r F w' (V ++ [(n, [], 0)]) := by
  obtain ⟨hZ, h0, born, fs, h1, rfl, rfl⟩ := h
  have hf : fileOf n fs = none := by rw [lookV_file] at hl; simpa using hl
  refine (append0_none h1 hf hn (by omega) (by omega) (by omega)).mono ?_
  rintro e w2 ⟨rfl, fs', hd, hs, hv⟩
  have ht : tot (vw fs ++ [(n, [], 0)]) = tot (vw fs) := by simp [tot]
  exact ⟨rfl, _, ⟨hZ, by omega, born, fs', by rw [ht]; exact hd, hv, rfl⟩, hs⟩

theorem dk_sync (h : Dk Z B w p r V F) {n : ByteArray} {b : List UInt8} {s : Nat} (hl : lookV n V = some (b, s)) {qb : Nat} (hq : w.heap[qb]? = some (.cells #[.string n] 9 (0, 0))) :
    Calls Tryz.prog 27 #[.pointer (some ⟨p, 0, none⟩), .slice (some ⟨qb, 0, none⟩) 1 1] w fun e w' => e = .returned (.int .i64 0) ∧ DkTo Z B w p r F w' (synV n V) := by
  obtain ⟨hZ, h0, born, fs, h1, rfl, rfl⟩ := h
  rw [lookV_file] at hl
  obtain ⟨f, hf, _⟩ := Option.map_eq_some_iff.1 hl
  refine (sync1 h1 hf hq (by have := file_len (fileOf_some hf).1 h0; omega)).mono ?_
  rintro e w2 ⟨rfl, fs', hd, hs, hv⟩
  have ht := tot_syn n (vw fs)
  exact ⟨rfl, _, ⟨hZ, by omega, born, fs', by rw [ht]; exact hd, hv, rfl⟩, hs⟩

theorem dk_del_none (h : Dk Z B w p r V F) {n : ByteArray} (hl : lookV n V = none) {qb : Nat} (hq : w.heap[qb]? = some (.cells #[.string n] 9 (0, 0))) :
    Calls Tryz.prog 21 #[.pointer (some ⟨p, 0, none⟩), .slice (some ⟨qb, 0, none⟩) 1 1] w fun e w' => e = .returned (.int .i64 4) ∧ Grow w w' := by
  obtain ⟨hZ, h0, born, fs, h1, rfl, rfl⟩ := h
  exact delete1_none h1 (by rw [lookV_file] at hl; simpa using hl) hq

theorem dk_del (h : Dk Z B w p r V F) {n : ByteArray} {b : List UInt8} {s : Nat} (hl : lookV n V = some (b, s)) {qb : Nat} (hq : w.heap[qb]? = some (.cells #[.string n] 9 (0, 0))) :
    Calls Tryz.prog 21 #[.pointer (some ⟨p, 0, none⟩), .slice (some ⟨qb, 0, none⟩) 1 1] w fun e w' => e = .returned (.int .i64 0) ∧ DkTo Z B w p r F w' (delV n V) := by
  have ht := tot_del h.names hl
  obtain ⟨hZ, h0, born, fs, h1, rfl, rfl⟩ := h
  rw [lookV_file] at hl
  obtain ⟨f, hf, hfb⟩ := Option.map_eq_some_iff.1 hl
  cases hfb
  refine (delete1 h1 hf hq (by have := file_len (fileOf_some hf).1 h0; omega) (by omega) (by omega)).mono ?_
  rintro e w2 ⟨rfl, fs', hd, hs, hv⟩
  refine ⟨rfl, _, ⟨hZ, by omega, born, fs', ?_, hv, rfl⟩, hs⟩
  have : ((tot (delV n (vw fs)) : Nat) : Int) = (tot (vw fs) : Int) - (f.b.length : Int) := by omega
  rw [this]; exact hd

theorem dk_ren (h : Dk Z B w p r V F) {m n : ByteArray} (hmn : m ≠ n) (hn : NameOk n) {b b0 : List UInt8} {s s0 : Nat} (hlm : lookV m V = some (b, s)) (hln : lookV n V = some (b0, s0)) :
    Calls Tryz.prog 62 #[.pointer (some ⟨p, 0, none⟩), .string m, .string n] w fun e w' => e = .returned (.int .i64 0) ∧ DkTo Z B w p r F w' (renV m n b s V) := by
  have ht := tot_ren h.names hmn hlm hln
  obtain ⟨hZ, h0, born, fs, h1, rfl, rfl⟩ := h
  rw [lookV_file] at hlm hln
  obtain ⟨f, hf, hfb⟩ := Option.map_eq_some_iff.1 hlm
  obtain ⟨g, hg, hgb⟩ := Option.map_eq_some_iff.1 hln
  cases hfb; cases hgb
  refine (rename_old h1 hf hg hmn hn (by have := file_len (fileOf_some hg).1 h0; omega) (by omega) (by omega)).mono ?_
  rintro e w2 ⟨rfl, fs', hd, hs, hv⟩
  refine ⟨rfl, _, ⟨hZ, by omega, born, fs', ?_, hv, rfl⟩, hs⟩
  have : ((tot (renV m n f.b f.synced (vw fs)) : Nat) : Int) = (tot (vw fs) : Int) - (g.b.length : Int) := by omega
  rw [this]; exact hd
end Go.Proofs.YtejpcoghkgjanaaGreatDoor

/- A disk at the level of what each name tells. -/
namespace Go.Proofs.YtejpcoghkgjanaaGreatDoor
open Go.RowKit Go.Gl Go.Wal Go.Sort

/-- What each name tells: a file's bytes, and how many are synced. -/
abbrev Lk := ByteArray → Option (List UInt8 × Nat)
def Lk.set (f : Lk) (n : ByteArray) (q : List UInt8 × Nat) : Lk := fun m => if m = n then some q else f m
def Lk.del (f : Lk) (n : ByteArray) : Lk := fun m => if m = n then none else f m
def Lk.add (f : Lk) (n : ByteArray) (x : List UInt8) : Lk := f.set n (match f n with | none => (x, 0) | some q => (q.1 ++ x, q.2))
def lkOf (V : Vw) : Lk := fun n => lookV n V

theorem lk_set_same (f : Lk) (n : ByteArray) (q : List UInt8 × Nat) : (f.set n q) n = some q := if_pos rfl
theorem lk_set_ne (f : Lk) {m n : ByteArray} (h : m ≠ n) (q : List UInt8 × Nat) : (f.set n q) m = f m := if_neg h
theorem lk_del_same (f : Lk) (n : ByteArray) : (f.del n) n = none := if_pos rfl
theorem lk_del_ne (f : Lk) {m n : ByteArray} (h : m ≠ n) : (f.del n) m = f m := if_neg h
theorem lk_set_set (f : Lk) (n : ByteArray) (q q' : List UInt8 × Nat) : (f.set n q).set n q' = f.set n q' := by
  funext m; by_cases h : m = n <;> simp [Lk.set, h]
theorem lk_set_del (f : Lk) (n : ByteArray) (q : List UInt8 × Nat) : (f.set n q).del n = f.del n := by
  funext m; by_cases h : m = n <;> simp [Lk.set, Lk.del, h]
theorem lk_del_set (f : Lk) (n : ByteArray) (q : List UInt8 × Nat) : (f.del n).set n q = f.set n q := by
  funext m; by_cases h : m = n <;> simp [Lk.set, Lk.del, h]
theorem lk_del_none {f : Lk} {n : ByteArray} (h : f n = none) : f.del n = f := by
  funext m; by_cases h1 : m = n
  · subst h1; simp [Lk.del, h]
  · simp [Lk.del, h1]
theorem lk_set_comm (f : Lk) {m n : ByteArray} (h : m ≠ n) (a b : List UInt8 × Nat) : (f.set m a).set n b = (f.set n b).set m a := by
  funext k; by_cases h1 : k = n
  · subst h1; simp [Lk.set, Ne.symm h]
  · simp [Lk.set, h1]
theorem lk_set_del_comm (f : Lk) {m n : ByteArray} (h : m ≠ n) (a : List UInt8 × Nat) : (f.set m a).del n = (f.del n).set m a := by
  funext k; by_cases h1 : k = n
  · subst h1; simp [Lk.set, Lk.del, Ne.symm h]
  · simp [Lk.set, Lk.del, h1]
theorem lk_set_self {f : Lk} {n : ByteArray} {q : List UInt8 × Nat} (h : f n = some q) : f.set n q = f := by
  funext k; unfold Lk.set; split
  · rename_i e; rw [e, h]
  · rfl

theorem look_app_all (n : ByteArray) (x : List UInt8) : ∀ (V : Vw) (m : ByteArray), lookV m (V.map (fun e => if e.1 = n then (e.1, e.2.1 ++ x, e.2.2) else e)) = if m = n then (lookV n V).map (fun q => (q.1 ++ x, q.2)) else lookV m V
  | [], m => by simp [lookV]
  | e :: V, m => by
    rw [List.map_cons]
    by_cases h2 : e.1 = n
    · rw [if_pos h2, look_cons, look_app_all n x V m, look_cons, look_cons]
      by_cases h1 : m = n <;> simp [h1, h2]
    · rw [if_neg h2, look_cons, look_app_all n x V m, look_cons, look_cons]
      by_cases h1 : m = n
      · subst h1; simp [Ne.symm h2]
      · simp [h1]

theorem lk_app (n : ByteArray) (x : List UInt8) (V : Vw) : lkOf (appV n x V) = (lkOf V).add n x := by
  funext m
  unfold appV lkOf Lk.add Lk.set
  rw [any_look]
  cases h : lookV n V with
  | none =>
    simp only [Option.isSome_none, Bool.false_eq_true, if_false]
    by_cases h1 : m = n
    · subst h1; rw [if_pos rfl, look_last h]; simp [h]
    · rw [if_neg h1, look_app h1]
  | some q =>
    simp only [Option.isSome_some, if_true]
    rw [look_app_all, h]
    rfl

theorem look_syn_all (n : ByteArray) : ∀ (V : Vw) (m : ByteArray), lookV m (synV n V) = if m = n then (lookV n V).map (fun q => (q.1, q.1.length)) else lookV m V
  | [], m => by simp [lookV, synV]
  | e :: V, m => by
    have ih := look_syn_all n V m
    unfold synV at ih ⊢
    rw [List.map_cons]
    by_cases h2 : e.1 = n
    · rw [if_pos h2, look_cons, ih, look_cons, look_cons]
      by_cases h1 : m = n <;> simp [h1, h2]
    · rw [if_neg h2, look_cons, ih, look_cons, look_cons]
      by_cases h1 : m = n
      · subst h1; simp [Ne.symm h2]
      · simp [h1]

theorem lk_syn {n : ByteArray} {V : Vw} {q : List UInt8 × Nat} (h : lkOf V n = some q) : lkOf (synV n V) = (lkOf V).set n (q.1, q.1.length) := by
  funext m
  unfold lkOf at h
  unfold lkOf Lk.set
  rw [look_syn_all, h]
  rfl

theorem look_del_all (n : ByteArray) : ∀ (V : Vw) (m : ByteArray), lookV m (delV n V) = if m = n then none else lookV m V
  | [], m => by simp [lookV, delV]
  | e :: V, m => by
    have ih := look_del_all n V m
    unfold delV at ih ⊢
    by_cases h2 : n = e.1
    · rw [List.filter_cons_of_neg (by simpa using h2), ih, look_cons]
      by_cases h1 : m = n
      · rw [if_pos h1, if_pos h1]
      · rw [if_neg h1, if_neg h1, if_neg (fun e' => h1 (e'.trans h2.symm))]
    · rw [List.filter_cons_of_pos (by simpa using h2), look_cons, ih, look_cons]
      by_cases h1 : m = n
      · rw [if_pos h1, if_pos h1, if_neg (fun e' => h2 (h1.symm.trans e'))]
      · rw [if_neg h1, if_neg h1]

theorem lk_del (n : ByteArray) (V : Vw) : lkOf (delV n V) = (lkOf V).del n := by
  funext m; unfold lkOf Lk.del; exact look_del_all n V m

theorem look_put_all (n : ByteArray) (q : List UInt8 × Nat) : ∀ (V : Vw) (m : ByteArray), lookV m (V.map (fun e => if e.1 = n then (e.1, q) else e)) = if m = n then (lookV n V).map (fun _ => q) else lookV m V
  | [], m => by simp [lookV]
  | e :: V, m => by
    rw [List.map_cons]
    by_cases h2 : e.1 = n
    · rw [if_pos h2, look_cons, look_put_all n q V m, look_cons, look_cons]
      by_cases h1 : m = n <;> simp [h1, h2]
    · rw [if_neg h2, look_cons, look_put_all n q V m, look_cons, look_cons]
      by_cases h1 : m = n
      · subst h1; simp [Ne.symm h2]
      · simp [h1]

theorem lk_ren {m n : ByteArray} (hmn : m ≠ n) {V : Vw} {q : List UInt8 × Nat} (hn : lkOf V n = some q) (b : List UInt8) (s : Nat) : lkOf (renV m n b s V) = ((lkOf V).del m).set n (b, s) := by
  funext k
  unfold lkOf at hn
  unfold renV lkOf Lk.set Lk.del
  rw [look_put_all n (b, s), look_del_all, look_del_all, if_neg (Ne.symm hmn), hn]
  rfl

theorem lk_rnw {m n : ByteArray} (hmn : m ≠ n) {V : Vw} (hn : lkOf V n = none) (b : List UInt8) (s : Nat) : lkOf (rnwV m n b s V) = ((lkOf V).del m).set n (b, s) := by
  funext k
  unfold lkOf at hn
  unfold rnwV lkOf Lk.set Lk.del
  have hd : lookV n (delV m V) = none := by rw [look_del_all, if_neg (Ne.symm hmn), hn]
  by_cases h1 : k = n
  · subst h1; rw [if_pos rfl, look_last hd]
  · rw [if_neg h1, look_app h1, look_del_all]

/-- A disk in memory: what each name tells, how many bytes there are, how many files at most. -/
def Dl (Z B : Nat) (w : World) (p r : Nat) (f : Lk) (T K : Nat) (F : Nat → Prop) : Prop := ∃ V, Dk Z B w p r V F ∧ lkOf V = f ∧ tot V = T ∧ V.length ≤ K
def DlTo (Z B : Nat) (w : World) (p r : Nat) (F : Nat → Prop) (w' : World) (f : Lk) (T K : Nat) : Prop := ∃ F', Dl Z B w' p r f T K F' ∧ Sep F w w' F'

variable {Z B : Nat} {w w' : World} {p r : Nat} {f : Lk} {T K : Nat} {F : Nat → Prop}

theorem Dl.grow (h : Dl Z B w p r f T K F) (hg : Grow w w') : Dl Z B w' p r f T K F := by
  obtain ⟨V, h1, h2, h3, h4⟩ := h; exact ⟨V, h1.grow hg, h2, h3, h4⟩
theorem Dl.base (h : Dl Z B w p r f T K F) : B ≤ w.heap.size := by obtain ⟨V, h1, _⟩ := h; exact h1.base
theorem Dl.foot (h : Dl Z B w p r f T K F) {b : Nat} (hb : F b) : B ≤ b ∧ b < w.heap.size := by obtain ⟨V, h1, _⟩ := h; exact h1.foot hb
theorem Dl.apart (h : Dl Z B w p r f T K F) {b : Nat} {arr : Array Value} {t : TypeId} {fz : Nat × Nat} (hb : w.heap[b]? = some (.cells arr t fz)) (h1 : t ≠ 56) (h2 : t ≠ 77) (h3 : t ≠ 5) : ¬ F b := by
  obtain ⟨V, h0, _⟩ := h; exact h0.apart hb h1 h2 h3
theorem Dl.total (h : Dl Z B w p r f T K F) : T ≤ Z := by obtain ⟨V, ⟨_, h0, _⟩, _, h1, _⟩ := h; omega
theorem Dl.size (h : Dl Z B w p r f T K F) : Z ≤ 1073741824 := by obtain ⟨V, ⟨h0, _⟩, _⟩ := h; exact h0
theorem Dl.more (h : Dl Z B w p r f T K F) {K' : Nat} (hK : K ≤ K') : Dl Z B w p r f T K' F := by obtain ⟨V, h1, h2, h3, h4⟩ := h; exact ⟨V, h1, h2, h3, by omega⟩
theorem DlTo.more (h : DlTo Z B w p r F w' f T K) {K' : Nat} (hK : K ≤ K') : DlTo Z B w p r F w' f T K' := by obtain ⟨F', h1, h2⟩ := h; exact ⟨F', h1.more hK, h2⟩

theorem look_tot {n : ByteArray} {q : List UInt8 × Nat} : ∀ {V : Vw}, lookV n V = some q → q.1.length ≤ tot V
  | [], h => by simp [lookV] at h
  | e :: V, h => by
    rw [look_cons] at h
    rw [tot_cons]
    split at h
    · cases h; omega
    · have := look_tot h; omega
theorem Dl.len (h : Dl Z B w p r f T K F) {n : ByteArray} {q : List UInt8 × Nat} (hn : f n = some q) : q.1.length ≤ T := by
  obtain ⟨V, _, h2, h3, _⟩ := h
  rw [← h2] at hn
  rw [← h3]; exact look_tot hn

theorem dl_read (h : Dl Z B w p r f T K F) (n : ByteArray) : Calls Tryz.prog 32 #[.pointer (some ⟨p, 0, none⟩), .string n] w fun e w' =>
      (match f n with
       | none => e = .returned (.tuple #[.slice none 0 0, .int .i64 4])
       | some (b, _) => ∃ v, e = .returned (.tuple #[v, .int .i64 0]) ∧ OwnB w.heap.size w' v b) ∧ Grow w w' := by
  obtain ⟨V, h1, rfl, h3, _⟩ := h
  exact dk_read h1 n

theorem dl_app (h : Dl Z B w p r f T K F) {n : ByteArray} (hn : NameOk n) {qb : Nat} {pv : Value} {x : List UInt8} (hq : w.heap[qb]? = some (.cells #[pv] 69 (0, 0))) (hx : Bv w pv x) (hroom : T + x.length ≤ Z) :
    Calls Tryz.prog 24 #[.pointer (some ⟨p, 0, none⟩), .string n, .slice (some ⟨qb, 0, none⟩) 1 1] w fun e w' => e = .returned (.int .i64 0) ∧ DlTo Z B w p r F w' (f.add n x) (T + x.length) (K + 1) := by
  obtain ⟨V, h1, rfl, rfl, h4⟩ := h
  refine (dk_app h1 hn hq hx hroom).mono ?_
  rintro e w2 ⟨he, F', hd, hs⟩
  refine ⟨he, F', ⟨_, hd, lk_app n x V, tot_app h1.names n x, ?_⟩, hs⟩
  unfold appV
  split <;> simp <;> omega

theorem dl_app_full (h : Dl Z B w p r f T K F) {n : ByteArray} (hn : NameOk n) {qb : Nat} {pv : Value} {x : List UInt8} (hq : w.heap[qb]? = some (.cells #[pv] 69 (0, 0))) (hx : Bv w pv x) (hxl : x.length ≤ 1000000000000) (hfull : Z < T + x.length) :
    Calls Tryz.prog 24 #[.pointer (some ⟨p, 0, none⟩), .string n, .slice (some ⟨qb, 0, none⟩) 1 1] w fun e w' => e = .returned (.int .i64 5) ∧ Grow w w' := by
  obtain ⟨V, ⟨hZ, h0, born, fs, hd, rfl, rfl⟩, rfl, rfl, h4⟩ := h
  exact append1_full hd hn hq hx (by omega) (by omega) hxl (by omega)

theorem dl_sync (h : Dl Z B w p r f T K F) {n : ByteArray} {q : List UInt8 × Nat} (hl : f n = some q) {qb : Nat} (hq : w.heap[qb]? = some (.cells #[.string n] 9 (0, 0))) :
    Calls Tryz.prog 27 #[.pointer (some ⟨p, 0, none⟩), .slice (some ⟨qb, 0, none⟩) 1 1] w fun e w' => e = .returned (.int .i64 0) ∧ DlTo Z B w p r F w' (f.set n (q.1, q.1.length)) T K := by
  obtain ⟨V, h1, rfl, rfl, h4⟩ := h
  refine (dk_sync h1 hl hq).mono ?_
  rintro e w2 ⟨he, F', hd, hs⟩
  exact ⟨he, F', ⟨_, hd, lk_syn hl, tot_syn n V, by simpa [synV] using h4⟩, hs⟩

theorem dl_del_none (h : Dl Z B w p r f T K F) {n : ByteArray} (hl : f n = none) {qb : Nat} (hq : w.heap[qb]? = some (.cells #[.string n] 9 (0, 0))) :
    Calls Tryz.prog 21 #[.pointer (some ⟨p, 0, none⟩), .slice (some ⟨qb, 0, none⟩) 1 1] w fun e w' => e = .returned (.int .i64 4) ∧ Grow w w' := by
  obtain ⟨V, h1, rfl, rfl, h4⟩ := h
  exact dk_del_none h1 hl hq

theorem dl_del (h : Dl Z B w p r f T K F) {n : ByteArray} {q : List UInt8 × Nat} (hl : f n = some q) {qb : Nat} (hq : w.heap[qb]? = some (.cells #[.string n] 9 (0, 0))) :
    Calls Tryz.prog 21 #[.pointer (some ⟨p, 0, none⟩), .slice (some ⟨qb, 0, none⟩) 1 1] w fun e w' => e = .returned (.int .i64 0) ∧ DlTo Z B w p r F w' (f.del n) (T - q.1.length) K := by
  obtain ⟨V, h1, rfl, rfl, h4⟩ := h
  refine (dk_del h1 hl hq).mono ?_
  rintro e w2 ⟨he, F', hd, hs⟩
  have ht := tot_del h1.names hl
  exact ⟨he, F', ⟨_, hd, lk_del n V, by omega, Nat.le_trans (List.length_filter_le _ _) h4⟩, hs⟩

/-- What is told of a file's bytes. -/
def lkLen (f : Lk) (n : ByteArray) : Nat := match f n with | none => 0 | some q => q.1.length

/-- 'Delete' whatever there is: the error's number is not looked at. -/
theorem dl_del_any (h : Dl Z B w p r f T K F) (n : ByteArray) {qb : Nat} (hq : w.heap[qb]? = some (.cells #[.string n] 9 (0, 0))) :
    Calls Tryz.prog 21 #[.pointer (some ⟨p, 0, none⟩), .slice (some ⟨qb, 0, none⟩) 1 1] w fun e w' => (∃ c : Int, e = .returned (.int .i64 c)) ∧ DlTo Z B w p r F w' (f.del n) (T - lkLen f n) K := by
  cases hl : f n with
  | none =>
    refine (dl_del_none h hl hq).mono ?_
    rintro e w2 ⟨he, hg⟩
    exact ⟨⟨_, he⟩, F, by rw [lk_del_none hl, show lkLen f n = 0 by unfold lkLen; rw [hl], Nat.sub_zero]; exact h.grow hg, Sep.ofGrow hg⟩
  | some q =>
    refine (dl_del h hl hq).mono ?_
    rintro e w2 ⟨he, hd⟩
    exact ⟨⟨_, he⟩, by rw [show lkLen f n = q.1.length by unfold lkLen; rw [hl]]; exact hd⟩

theorem tot_rnw {V : Vw} (hV : NamesV V) {m n : ByteArray} {b : List UInt8} {s : Nat} (hm : lookV m V = some (b, s)) : tot (rnwV m n b s V) = tot V := by
  have := tot_del hV hm
  unfold rnwV
  have h2 : tot (delV m V ++ [(n, b, s)]) = tot (delV m V) + b.length := by simp [tot]
  omega

theorem dl_ren (h : Dl Z B w p r f T K F) {m n : ByteArray} (hmn : m ≠ n) (hn : NameOk n) {q : List UInt8 × Nat} (hlm : f m = some q) :
    Calls Tryz.prog 62 #[.pointer (some ⟨p, 0, none⟩), .string m, .string n] w fun e w' => e = .returned (.int .i64 0) ∧ DlTo Z B w p r F w' ((f.del m).set n q) (T - lkLen f n) (K + 1) := by
  obtain ⟨V, h1, rfl, rfl, h4⟩ := h
  obtain ⟨b, s⟩ := q
  cases hl : lkOf V n with
  | some q0 =>
    refine (dk_ren h1 hmn hn hlm hl).mono ?_
    rintro e w2 ⟨he, F', hd, hs⟩
    have ht := tot_ren h1.names hmn hlm hl
    have hk : lkLen (lkOf V) n = q0.1.length := by unfold lkLen; rw [hl]
    refine ⟨he, F', ⟨_, hd, lk_ren hmn hl b s, by omega, ?_⟩, hs⟩
    have : (delV m V).length ≤ V.length := List.length_filter_le _ _
    unfold renV
    simp; omega
  | none =>
    have hN := h1.names
    obtain ⟨hZ, h0, born, fs, hd, rfl, rfl⟩ := h1
    have hlm' := hlm
    unfold lkOf at hlm
    rw [lookV_file] at hlm
    obtain ⟨fe, hfe, hfb⟩ := Option.map_eq_some_iff.1 hlm
    cases hfb
    have hg : fileOf n fs = none := by unfold lkOf at hl; rw [lookV_file] at hl; simpa using hl
    have hk : lkLen (lkOf (vw fs)) n = 0 := by unfold lkLen; rw [hl]
    refine (rename_new hd hfe hg hmn hn).mono ?_
    rintro e w2 ⟨he, fs', hd', hs, hv⟩
    have ht := tot_rnw (n := n) hN hlm'
    refine ⟨he, _, ⟨_, ⟨hZ, by omega, born, fs', ?_, hv, rfl⟩, lk_rnw hmn hl _ _, by omega, ?_⟩, hs⟩
    · rw [ht]; exact hd'
    · have : (delV m (vw fs)).length ≤ (vw fs).length := List.length_filter_le _ _
      unfold rnwV; simp; omega
end Go.Proofs.YtejpcoghkgjanaaGreatDoor

/- codec.Number, codec.Bytes behind bytes that can be read: the row is a new one. -/
namespace Go.Proofs.YtejpcoghkgjanaaGreatDoor
open Go.RowKit Go.Gl Go.Wal

theorem OwnB.slice {B : Nat} {w : World} {v : Value} {l : List UInt8} (h : OwnB B w v l) : ∃ a c, v = .slice a l.length c := by
  have := Row1.slice h
  rw [bcells_len] at this
  exact this

/-- 'append' behind a slice that is full. -/
theorem append_cap {w : World} {a : Option Addr} {l p : List UInt8} {pv : Value} (h : Bv w (.slice a l.length l.length) l) (hp : Bv w pv p) (hpos : 0 < p.length) (hlen : l.length + p.length ≤ 140737488355328) :
    ∃ v' w', (Builtin.append_ #[69, 69] 69 #[.slice a l.length l.length, pv]).run Tryz.prog w = .ok v' w' ∧ OwnB w.heap.size w' v' (l ++ p) ∧ Grow w w' := by
  obtain ⟨i, hi0, hzz, hsz, hbb⟩ := info_parts Tryz.infoB
  have hs' : Src Tryz.prog i.size 69 pv p.length (bcells p) w := by rw [hsz]; exact hp.src
  have hold : (Builtin.firstCells i.size l.length (.slice a l.length l.length)).run Tryz.prog w.drew = .ok (bcells l).toArray w.drew := by rw [hsz]; exact h.src.cellsD
  have hr := run_append_grow_src w 69 69 69 5 i _ Tryz.underlying69 hi0 hzz a l.length l.length (bcells l) hold pv p.length (bcells p) hs' (by omega) (by omega) (by rw [hbb]; exact growslice_fits (by omega) (by simpa using hlen))
  have hge := grownCap_ge w (l.length + p.length) l.length 5
  have hcm : grownCap w (l.length + p.length) l.length 5 ≤ maxLen := grownCap_le_maxLen w (l.length + p.length) l.length 5 (by unfold maxLen; omega)
  refine ⟨_, _, hr, ?_, ⟨rfl, rfl, rfl, by simp, fun k hk => heap_alloc_old w.drew _ hk⟩⟩
  have e : bcells l ++ bcells p = bcells (l ++ p) := (bcells_append l p).symm
  refine .inr ⟨w.heap.size, _, _, by rw [bcells_len, List.length_append], Nat.le_refl _, heap_alloc_new w.drew _, by rw [bcells_len, List.length_append]; exact hge, ?_, hcm, ?_⟩
  · have hz1 : (Value.cells (.int .u8 0)).size = 1 := rfl
    simp only [Array.size_append, List.size_toArray, size_zeroCells, hz1, List.length_append, bcells_len]
    omega
  · simp only [Array.toList_append]
    rw [e]
    exact List.take_left

/-- Bytes of one's own, or a slice that is full: what an append does not write into what others see. -/
def Ext (B : Nat) (w : World) (v : Value) (l : List UInt8) : Prop := OwnB B w v l ∨ ∃ a, v = .slice a l.length l.length ∧ Bv w v l

theorem Ext.slice {B : Nat} {w : World} {v : Value} {l : List UInt8} (h : Ext B w v l) : ∃ a c, v = .slice a l.length c := by
  rcases h with h | ⟨a, h, _⟩
  · exact h.slice
  · exact ⟨a, _, h⟩

theorem ext_byte {B : Nat} {w : World} {v : Value} {l : List UInt8} (h : Ext B w v l) (x : UInt8) {n : Int} (hx : n = (x.toNat : Int)) (hB : B ≤ w.heap.size) (hlen : l.length + 1 ≤ 140737488355328) :
    ∃ v' w', (Builtin.append_ #[69, 69] 69 #[v, .slice (some ⟨w.heap.size, 0, none⟩) 1 1]).run Tryz.prog (w.alloc (.cells #[.int .u8 n] 5)) = .ok v' w' ∧ OwnB B w' v' (l ++ [x]) ∧ Below B w w' := by
  rcases h with h | ⟨a, rfl, h⟩
  · exact append_byte h x hx hB hlen
  · subst hx
    have hb : Bv (w.alloc (.cells #[.int .u8 x.toNat] 5)) (.slice (some ⟨w.heap.size, 0, none⟩) 1 1) [x] := by
      refine ⟨some ⟨w.heap.size, 0, none⟩, 1, rfl, Nat.le_refl _, by decide, (fun h => by cases h), .inr ⟨w.heap.size, 0, rfl, by simp, fun j k hk => ?_⟩⟩
      match j, hk with
      | 0, hk =>
        cases hk
        simp only [World.cell?, heap_alloc_new]
        rfl
      | j + 1, hk => simp at hk
    have hga : Grow w (w.alloc (.cells #[.int .u8 x.toNat] 5)) := Grow.alloc _ _
    obtain ⟨v', w', h1, h2, h3⟩ := append_cap (h.grow hga) hb (by simp) (by simpa using hlen)
    exact ⟨v', w', h1, h2.mono (Nat.le_trans hB hga.size), (hga.trans h3).mono hB⟩

theorem clip_any {w : World} {v : Value} {l : List UInt8} (h : Bv w v l) : Calls Tryz.prog 90 #[v] w fun e w' => ∃ a, e = .returned (.slice a l.length l.length) ∧ Bv w (.slice a l.length l.length) l ∧ w' = w := by
  obtain ⟨a, c, rfl, h1, h2, h3, h4⟩ := h
  have hb : Bv w (.slice a l.length l.length) l := ⟨a, l.length, rfl, Nat.le_refl _, Nat.le_trans h1 h2, fun e => by have := h3 e; omega, h4⟩
  have Hb := Lib.hid hb
  cases a with
  | none =>
    have := h3 rfl
    have hl : l = [] := List.eq_nil_of_length_eq_zero (by omega)
    subst this hl
    clear h1 h2 h3 h4 hb
    go_enter Tryz.func90, Tryz.ntmps90
    go_wp2
    go_ret
    exact ⟨none, rfl, Hb.out, rfl⟩
  | some x =>
    clear h2 h3 h4 hb
    go_enter Tryz.func90, Tryz.ntmps90
    go_wp2
    go_ret
    exact ⟨_, rfl, Hb.out, rfl⟩

def NumJ (w : World) (l : List UInt8) (n : Nat) (bv vv : Value) (wr : World) : Prop :=
  ∃ (pre : List UInt8) (m k : Nat), vv = .int .u64 m ∧ Ext w.heap.size wr bv (l ++ pre) ∧ m < 128 ^ (k + 1) ∧ pre.length + (k + 1) = 10 ∧ numD n = pre ++ numF (k + 1) m ∧ m < 18446744073709551616 ∧ Grow w wr

set_option maxRecDepth 100000 in
set_option maxHeartbeats 4000000 in
theorem number_any {w : World} {bv : Value} {l : List UInt8} (h : Bv w bv l) (hl : l.length ≤ 1000000000000) {n : Nat} (hn : n < 18446744073709551616) :
    Calls Tryz.prog 57 #[bv, .int .u64 n] w fun e w' => ∃ v, e = .returned v ∧ OwnB w.heap.size w' v (l ++ numD n) ∧ Grow w w' := by
  have Hc := Lib.hid (clip_any h)
  obtain ⟨xa, xc, rfl⟩ := h.slice
  clear h
  go_enter Tryz.func57, Tryz.ntmps57
  go_wp2_with fail
  (with_reducible refine Hc.out.mono ?_)
  rintro e w1 ⟨ca, rfl, ho1, hw1⟩
  have hw2 := hw1.symm
  subst hw2
  clear hw1 Hc
  have Hst : Hid (NumJ w l n (.slice ca l.length l.length) (.int .u64 n) w) := Lib.hid ⟨[], n, 9, rfl, .inr ⟨ca, by simp, by simpa using ho1⟩, by omega, rfl, rfl, hn, Grow.refl _⟩
  clear ho1
  go_wp2_with fail
  go_loopw [0, 1] (fun bv vv wr => NumJ w l n bv vv wr) (fun _ vv _ => (intOf vv).toNat)
  case atStart => exact Hst.out
  case round =>
    obtain ⟨pre, m, k, rfl, hown, hm, hk, hnum, hm64, hg⟩ := hrel
    have hgs := hg.size
    have hll : (l ++ pre).length + 1 ≤ 140737488355328 := by simp; omega
    obtain ⟨ba, bc, rfl⟩ := hown.slice
    by_cases hlt : 128 ≤ m
    · have hge : decide ((128 : Int) ≤ (m : Int)) = true := by simp; omega
      have hk1 : 0 < k := by
        rcases Nat.eq_zero_or_pos k with rfl | h1
        · simp at hm; omega
        · exact h1
      obtain ⟨k', rfl⟩ : ∃ k', k = k' + 1 := ⟨k - 1, by omega⟩
      obtain ⟨v', w', h1, h2, h3⟩ := ext_byte hown (UInt8.ofNat (m % 128 + 128)) (or128 m) hgs hll
      have Hrun := Lib.hid h1
      have hrel : NumJ w l n v' (.int .u64 ((m : Int) / 128)) w' := by
        refine ⟨pre ++ [UInt8.ofNat (m % 128 + 128)], m / 128, k', by simp, .inl (by rw [← List.append_assoc]; exact h2), ?_, by simp; omega, ?_, by omega, Below.trans hg h3⟩
        · rw [Nat.pow_succ] at hm; exact Nat.div_lt_of_lt_mul (by rw [Nat.mul_comm]; exact hm)
        · rw [hnum, numF, if_neg (by omega)]; simp
      have Hrel := Lib.hid hrel
      clear h1 h2 h3 hrel hown hnum hm hk hg hgs hll
      go_wp2_with (at_builtin; refine wpList_append rfl rfl rfl rfl Hrun.out ?_)
      go_roundw
      case rel => exact Hrel.out
      case measure => simp [intOf]; omega
    · have hge : decide ((128 : Int) ≤ (m : Int)) = false := by simp; omega
      have hx : (m : Int) = (((UInt8.ofNat m).toNat : Nat) : Int) := by rw [UInt8.toNat_ofNat_of_lt' (by simp [UInt8.size]; omega)]
      obtain ⟨v', w', h1, h2, h3⟩ := ext_byte hown (UInt8.ofNat m) hx hgs hll
      have Hrun := Lib.hid h1
      have hpost : OwnB w.heap.size w' v' (l ++ numD n) := by
        rw [hnum, numF, if_pos (by omega), ← List.append_assoc]; exact h2
      have Hpost := Lib.hid hpost
      have Hg := Lib.hid (Below.trans hg h3)
      clear h1 h2 h3 hown hnum hm hk hg hpost hx hgs hll
      go_wp2_with (at_builtin; refine wpList_append rfl rfl rfl rfl Hrun.out ?_)
      go_ret
      exact ⟨_, rfl, Hpost.out, Hg.out⟩

/-- A text behind its length. -/
def bytesD (x : List UInt8) : List UInt8 := numD x.length ++ x

set_option maxRecDepth 100000 in
set_option maxHeartbeats 4000000 in
theorem csize_one {w : World} {qb : Nat} {pv : Value} {x : List UInt8} (hq : w.heap[qb]? = some (.cells #[pv] 69 (0, 0))) (hx : Bv w pv x) (hl : x.length ≤ 1000000000000) :
    Calls Tryz.prog 92 #[.slice (some ⟨qb, 0, none⟩) 1 1] w fun e w' => e = .returned (.int .i64 x.length) ∧ w' = w := by
  have c0 : w.cell? ⟨qb, 0, none⟩ = some pv := by simp [World.cell?, hq]
  have lq := lt_of_getElem? hq
  obtain ⟨xa, xc, rfl⟩ := hx.slice
  have hw : IntKind.i64.wrap (0 + (x.length : Int)) = (x.length : Int) := by rw [Int.zero_add]; exact IntWalk.i64_in _ (by omega)
  have hw1 : IntKind.i64.wrap (x.length : Int) = (x.length : Int) := IntWalk.i64_in _ (by omega)
  clear hx hq
  go_enter Tryz.func92, Tryz.ntmps92
  go_wp2_with fail
  refine wp_loop_rounds 2 ?_
  rw [rounds_succ]
  go_wp2
  rw [rounds_succ]
  go_wp2
  go_ret
  exact ⟨rfl, rfl⟩

set_option maxRecDepth 100000 in
set_option maxHeartbeats 4000000 in
theorem bytes_any {w : World} {bv : Value} {l : List UInt8} (h : Bv w bv l) (hl : l.length ≤ 900000000000) {qb : Nat} {pv : Value} {x : List UInt8} (hq : w.heap[qb]? = some (.cells #[pv] 69 (0, 0))) (hx : Bv w pv x) (hxl : x.length ≤ 10000000000) :
    Calls Tryz.prog 59 #[bv, .slice (some ⟨qb, 0, none⟩) 1 1] w fun e w' => ∃ v, e = .returned v ∧ OwnB w.heap.size w' v (l ++ bytesD x) ∧ Grow w w' := by
  have Hs := Lib.hid (csize_one hq hx (by omega))
  have Hn := Lib.hid (number_any h (by omega) (n := x.length) (by omega))
  obtain ⟨ba, bc, rfl⟩ := h.slice
  have Hq := Lib.hid hq
  have Hx := Lib.hid hx
  have hwu : IntKind.u64.wrap (x.length : Int) = (x.length : Int) := by simp [IntKind.wrap, IntKind.bits, IntKind.signed]; omega
  clear h hq hx
  go_enter Tryz.func59, Tryz.ntmps59
  go_wp2_with fail
  (with_reducible refine Hs.out.mono ?_)
  rintro e w1 ⟨rfl, hw1⟩
  have hw2 := hw1.symm
  subst hw2
  clear hw1 Hs
  go_wp2_with fail
  (with_reducible refine Hn.out.mono ?_)
  rintro e w2 ⟨nv, rfl, ho2, hb2⟩
  have hq2 := hb2.heap Hq.out
  have hx2 := Hx.out.grow hb2
  obtain ⟨v', w', h1, h2, h3, _⟩ := append_bytes ho2 hx2 hb2.size (by have := numF_len 10 x.length; simp; unfold numD; omega)
  have Hrun := Lib.hid h1
  have hpost : OwnB w.heap.size w' v' (l ++ bytesD x) := by unfold bytesD; rw [← List.append_assoc]; exact h2
  have Hpost := Lib.hid hpost
  have Hg := Lib.hid (below_grown hb2 hb2.size ho2 h3)
  clear hpost h2 h3
  generalize l ++ numD x.length = y at *
  have c0 : w2.cell? ⟨qb, 0, none⟩ = some pv := by simp [World.cell?, hq2]
  have lq := lt_of_getElem? hq2
  obtain ⟨na, nc, rfl⟩ := ho2.slice
  obtain ⟨xa, xc, rfl⟩ := hx2.slice
  clear h1 ho2 hx2 hq2 Hn Hq Hx hb2
  go_wp2_with fail
  refine wp_loop_rounds 2 ?_
  rw [rounds_succ]
  go_wp2_with (at_builtin; refine wpList_append rfl rfl rfl rfl Hrun.out ?_)
  rw [rounds_succ]
  go_wp2
  go_ret
  exact ⟨_, rfl, Hpost.out, Hg.out⟩

/-- 'string(b)'. -/
theorem conv_text {w : World} {v : Value} {l : List UInt8} (h : Bv w v l) : (convert 69 9 v).run Tryz.prog w = .ok (.string ⟨l.toArray⟩) w := by
  obtain ⟨a, c, rfl, _, _, _, h⟩ := h
  by_cases h0 : l = []
  · subst h0
    rw [List.length_nil, run_convert_bytes_string w 69 9 5 a 0 c Tryz.underlying69 Tryz.underlying5 Tryz.underlying9]
    cases a <;> simp [Conv.bytesToString, loadCells, loadCellsFrom] <;> rfl
  · rcases h with h | ⟨b, o, rfl, hb, hc⟩
    · exact absurd h h0
    · exact run_string Tryz.underlying69 Tryz.underlying5 Tryz.underlying9 (.inr ⟨b, o, c, rfl, hb, hc⟩)

/-- '[]byte(s)'. -/
theorem conv_bytes (s : ByteArray) (hs : s.size ≤ 140737488355328) (w : World) : ∃ cap w', (convert 9 69 (.string s)).run Tryz.prog w = .ok (.slice (some ⟨w.heap.size, 0, none⟩) s.size cap) w' ∧ Bv w' (.slice (some ⟨w.heap.size, 0, none⟩) s.size cap) s.data.toList ∧ Grow w w' := by
  have hr := Lib.run_convert_string_bytes (P := Tryz.prog) w 9 69 5 s Tryz.underlying9 Tryz.underlying69 Tryz.underlying5
  have hge := grownCap_ge w s.size 0 5
  have hmax : grownCap w s.size 0 5 ≤ maxLen := grownCap_le_maxLen w s.size 0 5 (by unfold maxLen; omega)
  have hgrow := Lib.bytesWorld_below w 5 s
  have hblk : (Lib.bytesWorld w 5 s).heap[w.heap.size]? = some (.cells (Lib.bytesCells w 5 s) 5 ((Lib.bytesCells w 5 s).size, (Lib.bytesCells w 5 s).size + 1)) := by
    simp [Lib.bytesWorld, World.freeze, World.alloc, World.drew, -World.alloc_eq, -World.drew_eq, Array.getElem_modify]
  have hsl : s.data.toList.length = s.size := by rw [Array.length_toList]; rfl
  have htk : (Lib.bytesCells w 5 s).toList.take s.size = bcells s.data.toList := by
    unfold Lib.bytesCells
    rw [Array.toList_append, Array.toList_map]
    have hl : (s.data.toList.map fun b => Value.int .u8 b.toNat).length = s.size := by rw [List.length_map, Array.length_toList]; rfl
    rw [← hl, List.take_left]
    rfl
  refine ⟨_, _, hr, ?_, hgrow⟩
  refine ⟨some ⟨w.heap.size, 0, none⟩, _, by rw [hsl], by rw [hsl]; exact hge, hmax, (fun h => by cases h), .inr ⟨w.heap.size, 0, rfl, lt_of_getElem? hblk, fun j k hk => ?_⟩⟩
  have h1 : (bcells s.data.toList)[j]? = some (.int .u8 k.toNat) := by simp [bcells, hk]
  rw [← htk, List.getElem?_take] at h1
  split at h1
  · simp only [World.cell?, hblk]
    simpa using h1
  · cases h1
end Go.Proofs.YtejpcoghkgjanaaGreatDoor
