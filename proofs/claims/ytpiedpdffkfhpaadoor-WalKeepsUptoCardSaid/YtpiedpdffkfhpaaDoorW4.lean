/- Merged out of E1, E2, E3, E4, E5, E6, E7, E8, E9, EA, EB, EC: helpers. -/
import Derived.Test.YtpiedpdffkfhpaaDoorW3
import Derived.Shelf.Strconv.Itoa3
import Derived.Shelf.Strconv.Atoi
import Derived.Shelf.Strings.Prefix
import Derived.Lib.AtoiErrMem
/- wal.Segment. -/
namespace Go.Proofs.YtpiedpdffkfhpaaDoor
open Go.RowKit Go.Gl Go.Wal Go.Sort

/-- Numbers below N are told in digits, whatever the world, as long as the blocks below B stay. -/
def Nums (N B : Nat) (w : World) : Prop := ∀ n : Nat, n < N → ∀ W : World, (∀ b, b < B → W.heap[b]? = w.heap[b]?) → Calls Tryd.prog 30 #[.int .i64 n] W fun e w' => e = .returned (.string ⟨(Lib.decDigits n).toArray⟩) ∧ Grow W w'

theorem nums_small (B : Nat) (w : World) : Nums 100 B w := fun n hn W _ => (Any.strconv_Itoa_small Tryd.itoa n hn W).mono (by rintro e w' ⟨rfl, rfl⟩; exact ⟨rfl, Grow.refl _⟩)

theorem Nums.keep {N B : Nat} {w w' : World} (h : Nums N B w) (hk : ∀ b, b < B → w'.heap[b]? = w.heap[b]?) : Nums N B w' := fun n hn W hW => h n hn W (fun b hb => (hW b hb).trans (hk b hb))

def padD (n : Nat) : List UInt8 := List.replicate (6 - (Lib.decDigits n).length) 48 ++ Lib.decDigits n
def segB (name : List UInt8) (n : Nat) : List UInt8 := name ++ 45 :: padD n
def segT (name : List UInt8) (n : Nat) : ByteArray := ⟨(segB name n).toArray⟩

theorem ba_append (x y : List UInt8) : (⟨x.toArray⟩ : ByteArray) ++ ⟨y.toArray⟩ = ⟨(x ++ y).toArray⟩ := by
  apply ByteArray.ext
  simp

def SgInv (w : World) (n : Nat) (sv : Value) (wr : World) : Prop := ∃ k : Nat, sv = .string ⟨(List.replicate k 48 ++ Lib.decDigits n).toArray⟩ ∧ (k = 0 ∨ k + (Lib.decDigits n).length ≤ 6) ∧ Grow w wr

theorem digits_small {n : Nat} (h : n < 1000000) : (Lib.decDigits n).length ≤ 6 := by
  have h0 : ∀ m, (Lib.decDigits m).length = if m < 10 then 1 else (Lib.decDigits (m / 10)).length + 1 := fun m => by
    rw [Lib.decDigits]; split
    · simp
    · simp
  rw [h0]; split; · omega
  rw [h0]; split; · omega
  rw [h0]; split; · omega
  rw [h0]; split; · omega
  rw [h0]; split; · omega
  rw [h0, if_pos (by omega)]; decide

set_option maxRecDepth 100000 in
set_option maxHeartbeats 4000000 in
theorem segment_any {N B : Nat} {w : World} (h : Nums N B w) {n : Nat} (hn : n < N) (h6 : n < 1000000) {name : List UInt8} (hnm : name.length ≤ 64) :
    Calls Tryd.prog 11 #[.string ⟨name.toArray⟩, .int .i64 n] w fun e w' => e = .returned (.string (segT name n)) ∧ Grow w w' := by
  have hd := digits_small h6
  have Hi := Lib.hid (h n hn w (fun _ _ => rfl))
  clear h
  go_enter Tryd.func11, Tryd.ntmps11
  go_wp2_with fail
  (with_reducible refine Hi.out.mono ?_)
  rintro e w1 ⟨rfl, hg1⟩
  have Hg1 := Lib.hid hg1
  clear hg1
  go_wp2_with fail
  go_loopw [5] (fun sv wr => SgInv w n sv wr) (fun sv _ => 6 - (match sv with | .string s => s.size | _ => 0))
  case atStart => exact ⟨0, by simp, .inl rfl, Hg1.out⟩
  case round =>
    obtain ⟨k, rfl, hk, hg⟩ := hrel
    have Hg := Lib.hid hg
    clear hg
    have hsz : (⟨(List.replicate k 48 ++ Lib.decDigits n).toArray⟩ : ByteArray).size = k + (Lib.decDigits n).length := by simp [ByteArray.size]
    by_cases hlt : k + (Lib.decDigits n).length < 6
    · have e1 : (k : Int) + ((Lib.decDigits n).length : Int) < 6 := by omega
      have e3 : ¬ 9223372036854775807 < 1 + (k + (Lib.decDigits n).length) := by omega
      go_wp2
      go_roundw
      case rel =>
        refine ⟨k + 1, ?_, .inr (by omega), Hg.out⟩
        rw [show (⟨#[48]⟩ : ByteArray) = ⟨([48] : List UInt8).toArray⟩ from rfl, ba_append, List.replicate_succ]; rfl
      case measure =>
        rw [show (⟨#[48]⟩ : ByteArray) = ⟨([48] : List UInt8).toArray⟩ from rfl, ba_append]
        simp only [ByteArray.size, List.size_toArray, List.length_append, List.length_replicate, List.length_cons, List.length_nil]
        omega
    · have e1 : ¬ (k : Int) + ((Lib.decDigits n).length : Int) < 6 := by omega
      have e1' : decide ((k : Int) + ((Lib.decDigits n).length : Int) < 6) = false := by simpa using e1
      have e2 : ¬ 9223372036854775807 < name.length + 1 := by omega
      have e3 : ¬ 9223372036854775807 < name.length + 1 + (k + (Lib.decDigits n).length) := by omega
      have hk6 : k = 6 - (Lib.decDigits n).length := by omega
      have Hk6 := Lib.hid hk6
      clear hk6
      go_wp2
      go_ret
      refine ⟨?_, Hg.out⟩
      rw [show (⟨#[45]⟩ : ByteArray) = ⟨([45] : List UInt8).toArray⟩ from rfl, ba_append, ba_append, segT, segB, padD, ← Hk6.out]
      simp
end Go.Proofs.YtpiedpdffkfhpaaDoor

/- wal.named at "w" and "log", and Log.there. -/
namespace Go.Proofs.YtpiedpdffkfhpaaDoor
open Go.RowKit Go.Gl Go.Wal Go.Sort

abbrev wN : List UInt8 := [119]

abbrev logN : List UInt8 := [108, 111, 103]

structure LogAt (w : World) (lb p : Nat) (nm : List UInt8) (last : Int) : Prop where
  self : w.heap[lb]? = some (.cells #[.pointer (some ⟨p, 0, none⟩), .string ⟨nm.toArray⟩, .int .i64 last] 55 (0, 0))

theorem LogAt.cells {w : World} {lb p : Nat} {nm : List UInt8} {last : Int} (h : LogAt w lb p nm last) : w.cell? ⟨lb, 0, none⟩ = some (.pointer (some ⟨p, 0, none⟩)) ∧ w.cell? ⟨lb, 1, none⟩ = some (.string ⟨nm.toArray⟩) ∧ w.cell? ⟨lb, 2, none⟩ = some (.int .i64 last) ∧ lb < w.heap.size := by
  refine ⟨?_, ?_, ?_, lt_of_getElem? h.self⟩ <;> simp [World.cell?, h.self]
theorem LogAt.grow {w w' : World} {lb p : Nat} {nm : List UInt8} {last : Int} (h : LogAt w lb p nm last) (hg : Grow w w') : LogAt w' lb p nm last := ⟨hg.heap h.self⟩

set_option maxRecDepth 100000 in
set_option maxHeartbeats 4000000 in
theorem named_w (w : World) : Calls Tryd.prog 20 #[.string ⟨#[119]⟩] w fun e w' => e = .returned (.bool true) ∧ w' = w := by
  go_enter Tryd.func20, Tryd.ntmps20
  go_wp2_with fail
  refine wp_loop_rounds 2 ?_
  rw [rounds_succ]
  go_wp2
  rw [rounds_succ]
  go_wp2
  go_ret
  exact ⟨rfl, rfl⟩

set_option maxRecDepth 100000 in
set_option maxHeartbeats 4000000 in
theorem named_log (w : World) : Calls Tryd.prog 20 #[.string ⟨#[108, 111, 103]⟩] w fun e w' => e = .returned (.bool true) ∧ w' = w := by
  go_enter Tryd.func20, Tryd.ntmps20
  go_wp2_with fail
  refine wp_loop_rounds 4 ?_
  rw [rounds_succ]
  go_wp2
  rw [rounds_succ]
  go_wp2
  rw [rounds_succ]
  go_wp2
  rw [rounds_succ]
  go_wp2
  go_ret
  exact ⟨rfl, rfl⟩

theorem Nums.grow {N B : Nat} {w w' : World} (h : Nums N B w) (hg : Grow w w') (hB : B ≤ w.heap.size) : Nums N B w' := h.keep (fun b hb => hg.block b (by omega))

set_option maxRecDepth 100000 in
set_option maxHeartbeats 4000000 in
theorem there_any {N B : Nat} {w : World} {lb p r : Nat} {nm : List UInt8} {last size used born : Int} {fs : List Fe} (hl : LogAt w lb p nm last) (hnm : nm.length ≤ 32) (h : DiskAt B w p r size used born fs) (hN : Nums N B w) (hb : ∀ f ∈ fs, f.b.length ≤ 140737488355328) {n : Nat} (hn : n < N) (h6 : n < 1000000) :
    Calls Tryd.prog 21 #[.pointer (some ⟨lb, 0, none⟩), .int .i64 n] w fun e w' => e = .returned (.bool (fileOf (segT nm n) fs).isSome) ∧ Grow w w' := by
  obtain ⟨l0, l1, l2, ll⟩ := hl.cells
  have Hs := Lib.hid (fun (w1 : World) (hg : Grow w w1) => segment_any (hN.grow hg h.base.2.2) hn h6 (name := nm) (by omega))
  have Hr := Lib.hid (fun (w1 : World) (hg : Grow w w1) => read_any (h.grow hg) (segT nm n) hb)
  clear hl h hN hb
  have hcl := Grow.cells (w := w)
  go_enter Tryd.func21, Tryd.ntmps21
  go_wp2_with fail
  refine wp_region_pi (fun W => Below w.heap.size w W) [(0, false), (1, false), (2, false), (3, false), (4, false), (5, false), (6, false), (7, false), (8, false), (9, true), (10, true), (11, false), (12, false), (13, false), (14, false), (15, false)] (by kernel_rfl) (by kernel_rfl) (fun c a d v w h => by cases d <;> exact h) (Grow.drew _) ?_
  simp only [arrange, nth]
  repeat (first | (refine wpPi_quiet (v := ?_) (by rfl) (fun W hW => ?_) ?_; rotate_left; (obtain hW := hW; go_simp; with_reducible rfl); simp only [Act.put, List.setIfInBounds_toArray, List.set_cons_zero, List.set_cons_succ]) | (refine wpPi_off (by rfl) ?_; simp only [Act.put, List.setIfInBounds_toArray, List.set_cons_zero, List.set_cons_succ]))
  refine wpPi_call (by rfl) (by go_simp) (Hs.out w.drew (Grow.drew _)) ?_
  rintro e w1 ⟨rfl, hg1⟩
  have hg1' := (Grow.drew w).trans hg1
  refine ⟨_, rfl, hg1', ?_⟩
  try simp only [Act.put, List.setIfInBounds_toArray, List.set_cons_zero, List.set_cons_succ]
  refine wpPi_call (by rfl) (by go_simp) (Hr.out w1 hg1') ?_
  rintro e w2 ⟨hm, hg2⟩
  have hg2' := hg1'.trans hg2
  have Hg2 := Lib.hid hg2'
  clear hg1' hg2 hg1
  cases hf : fileOf (segT nm n) fs with
  | none =>
    rw [hf] at hm
    obtain rfl := hm
    refine ⟨_, rfl, hg2', ?_⟩
    clear hg2'
    try simp only [Act.put, List.setIfInBounds_toArray, List.set_cons_zero, List.set_cons_succ]
    repeat (first | (refine wpPi_quiet (v := ?_) (by rfl) (fun W hW => ?_) ?_; rotate_left; (obtain hW := hW; go_simp; with_reducible rfl); simp only [Act.put, List.setIfInBounds_toArray, List.set_cons_zero, List.set_cons_succ]) | (refine wpPi_off (by rfl) ?_; simp only [Act.put, List.setIfInBounds_toArray, List.set_cons_zero, List.set_cons_succ]))
    refine wpPi_nil ?_
    go_wp2
    go_ret
    exact ⟨by rw [hf]; rfl, Hg2.out⟩
  | some f =>
    rw [hf] at hm
    obtain ⟨v, rfl, hv⟩ := hm
    refine ⟨_, rfl, hg2', ?_⟩
    clear hg2' hv
    try simp only [Act.put, List.setIfInBounds_toArray, List.set_cons_zero, List.set_cons_succ]
    repeat (first | (refine wpPi_quiet (v := ?_) (by rfl) (fun W hW => ?_) ?_; rotate_left; (obtain hW := hW; go_simp; with_reducible rfl); simp only [Act.put, List.setIfInBounds_toArray, List.set_cons_zero, List.set_cons_succ]) | (refine wpPi_off (by rfl) ?_; simp only [Act.put, List.setIfInBounds_toArray, List.set_cons_zero, List.set_cons_succ]))
    refine wpPi_nil ?_
    go_wp2
    go_ret
    exact ⟨by rw [hf]; rfl, Hg2.out⟩
end Go.Proofs.YtpiedpdffkfhpaaDoor

/- A disk's view: how many bytes it holds after each operation. -/
namespace Go.Proofs.YtpiedpdffkfhpaaDoor
open Go.RowKit Go.Gl Go.Wal Go.Sort

def NamesV (V : Vw) : Prop := (V.map (·.1)).Nodup

theorem NamesV.tail {e : ByteArray × List UInt8 × Nat} {V : Vw} (h : NamesV (e :: V)) : NamesV V := (List.nodup_cons.1 h).2
theorem NamesV.head {e : ByteArray × List UInt8 × Nat} {V : Vw} (h : NamesV (e :: V)) : ∀ g ∈ V, g.1 ≠ e.1 := fun g hg he => (List.nodup_cons.1 h).1 (List.mem_map.2 ⟨g, hg, he⟩)

theorem tot_cons (e : ByteArray × List UInt8 × Nat) (V : Vw) : tot (e :: V) = e.2.1.length + tot V := by simp [tot]

theorem look_cons (n : ByteArray) (e : ByteArray × List UInt8 × Nat) (V : Vw) : lookV n (e :: V) = if n = e.1 then some e.2 else lookV n V := by
  unfold lookV
  rw [List.find?_cons]
  by_cases h : n = e.1 <;> simp [h]

theorem map_off {V : Vw} {n : ByteArray} (h : ∀ g ∈ V, g.1 ≠ n) (k : ByteArray × List UInt8 × Nat → ByteArray × List UInt8 × Nat) : (V.map fun e => if e.1 = n then k e else e) = V := by
  induction V with
  | nil => rfl
  | cons e V ih => rw [List.map_cons, if_neg (h e (List.mem_cons_self ..)), ih (fun g hg => h g (List.mem_cons_of_mem _ hg))]

theorem tot_map {V : Vw} (hV : NamesV V) {n : ByteArray} {b0 : List UInt8} {s0 : Nat} (h : lookV n V = some (b0, s0)) (k : ByteArray × List UInt8 × Nat → ByteArray × List UInt8 × Nat) :
    tot (V.map fun e => if e.1 = n then k e else e) + b0.length = tot V + (k (n, b0, s0)).2.1.length := by
  induction V with
  | nil => cases h
  | cons e V ih =>
    rw [look_cons] at h
    rw [List.map_cons, tot_cons, tot_cons]
    by_cases hn : n = e.1
    · rw [if_pos hn] at h
      have he : e = (n, b0, s0) := by obtain ⟨e1, e2⟩ := e; cases h; cases hn; rfl
      rw [if_pos hn.symm, map_off (fun g hg => hn ▸ hV.head g hg)]
      subst he
      simp only
      omega
    · rw [if_neg hn] at h
      rw [if_neg (fun x => hn x.symm)]
      have := ih hV.tail h
      omega

theorem tot_syn (n : ByteArray) (V : Vw) : tot (synV n V) = tot V := by
  unfold tot synV
  rw [List.map_map]
  congr 1
  apply List.map_congr_left
  intro e _
  simp only [Function.comp]
  split <;> rfl

theorem any_look {n : ByteArray} {V : Vw} : V.any (fun e => decide (e.1 = n)) = (lookV n V).isSome := by
  induction V with
  | nil => rfl
  | cons e V ih =>
    rw [List.any_cons, look_cons, ih]
    by_cases h : n = e.1
    · simp [h]
    · have : ¬ e.1 = n := fun x => h x.symm
      simp [h, this]

theorem tot_app {V : Vw} (hV : NamesV V) (n : ByteArray) (x : List UInt8) : tot (appV n x V) = tot V + x.length := by
  unfold appV
  rw [any_look]
  cases h : lookV n V with
  | none => simp [tot]
  | some q =>
    obtain ⟨b0, s0⟩ := q
    rw [if_pos (show (some (b0, s0)).isSome = true from rfl)]
    have := tot_map hV h (fun e => (e.1, e.2.1 ++ x, e.2.2))
    simp only [List.length_append] at this
    omega

theorem tot_del {V : Vw} (hV : NamesV V) {n : ByteArray} {b0 : List UInt8} {s0 : Nat} (h : lookV n V = some (b0, s0)) : tot (delV n V) + b0.length = tot V := by
  induction V with
  | nil => cases h
  | cons e V ih =>
    rw [look_cons] at h
    unfold delV
    by_cases hn : n = e.1
    · rw [if_pos hn] at h
      rw [List.filter_cons_of_neg (by simp [hn]), List.filter_eq_self.2 (fun g hg => by have := hV.head g hg; simp [hn]; exact fun x => this x.symm), tot_cons]
      obtain ⟨e1, e2⟩ := e; cases h; simp only; omega
    · rw [if_neg hn] at h
      rw [List.filter_cons_of_pos (by simp [hn]), tot_cons, tot_cons]
      have := ih hV.tail h
      unfold delV at this
      omega

theorem look_del {V : Vw} {m n : ByteArray} (h : m ≠ n) : lookV n (delV m V) = lookV n V := by
  induction V with
  | nil => rfl
  | cons e V ih =>
    unfold delV at ih ⊢
    by_cases hm : m = e.1
    · rw [List.filter_cons_of_neg (by simp [hm]), ih, look_cons, if_neg (fun x => h (hm.trans x.symm))]
    · rw [List.filter_cons_of_pos (by simp [hm]), look_cons, look_cons, ih]

theorem tot_ren {V : Vw} (hV : NamesV V) {m n : ByteArray} (hmn : m ≠ n) {b b0 : List UInt8} {s s0 : Nat} (hm : lookV m V = some (b, s)) (hn : lookV n V = some (b0, s0)) : tot (renV m n b s V) + b0.length = tot V := by
  have h1 := tot_del hV hm
  have hd : NamesV (delV m V) := List.Nodup.sublist (List.filter_sublist.map _) hV
  have h2 := tot_map hd ((look_del hmn).trans hn) (fun e => (e.1, b, s))
  unfold renV
  simp only at h2
  omega
end Go.Proofs.YtpiedpdffkfhpaaDoor

/- A disk of Z bytes (1 << 24 at most) at the level of views. -/
namespace Go.Proofs.YtpiedpdffkfhpaaDoor
open Go.RowKit Go.Gl Go.Wal Go.Sort

def Dk (Z B : Nat) (w : World) (p r : Nat) (V : Vw) (F : Nat → Prop) : Prop := Z ≤ 16777216 ∧ tot V ≤ Z ∧ ∃ (born : Int) (fs : List Fe), DiskAt B w p r Z (tot V) born fs ∧ vw fs = V ∧ Foot p r fs = F

def DkTo (Z B : Nat) (w : World) (p r : Nat) (F : Nat → Prop) (w' : World) (V' : Vw) : Prop := ∃ F', Dk Z B w' p r V' F' ∧ Sep F w w' F'

variable {Z B : Nat} {w w' : World} {p r : Nat} {V : Vw} {F : Nat → Prop}

theorem Dk.grow (h : Dk Z B w p r V F) (hg : Grow w w') : Dk Z B w' p r V F := by
  obtain ⟨hZ, h0, born, fs, h1, h2, h3⟩ := h
  exact ⟨hZ, h0, born, fs, h1.grow hg, h2, h3⟩

theorem names_vw (fs : List Fe) : (vw fs).map (·.1) = fs.map Fe.name := by simp [vw, Function.comp]

theorem Dk.names (h : Dk Z B w p r V F) : NamesV V := by
  obtain ⟨hZ, h0, born, fs, h1, rfl, h3⟩ := h
  unfold NamesV; rw [names_vw]; exact h1.names

theorem Dk.base (h : Dk Z B w p r V F) : B ≤ w.heap.size := by
  obtain ⟨hZ, h0, born, fs, h1, rfl, h3⟩ := h
  exact h1.base.2.2

theorem Dk.foot (h : Dk Z B w p r V F) {b : Nat} (hb : F b) : B ≤ b ∧ b < w.heap.size := by
  obtain ⟨hZ, h0, born, fs, h1, rfl, rfl⟩ := h
  exact h1.foot_lt hb

theorem Dk.apart (h : Dk Z B w p r V F) {b : Nat} {arr : Array Value} {t : TypeId} {f : Nat × Nat} (hb : w.heap[b]? = some (.cells arr t f)) (h1 : t ≠ 52) (h2 : t ≠ 67) (h3 : t ≠ 5) : ¬ F b := by
  obtain ⟨hZ, h0, born, fs, hd, rfl, rfl⟩ := h
  exact hd.apart hb h1 h2 h3

theorem file_len {fs : List Fe} {f : Fe} (hf : f ∈ fs) {Z : Nat} (h : tot (vw fs) ≤ Z) : f.b.length ≤ Z := Nat.le_trans (tot_mem hf) h

theorem dk_read (h : Dk Z B w p r V F) (n : ByteArray) : Calls Tryd.prog 10 #[.pointer (some ⟨p, 0, none⟩), .string n] w fun e w' =>
      (match lookV n V with
       | none => e = .returned (.tuple #[.slice none 0 0, .int .i64 4])
       | some (b, _) => ∃ v, e = .returned (.tuple #[v, .int .i64 0]) ∧ OwnB w.heap.size w' v b) ∧ Grow w w' := by
  obtain ⟨hZ, h0, born, fs, h1, rfl, rfl⟩ := h
  refine (read_any h1 n (fun f hf => by have := file_len hf h0; omega)).mono ?_
  rintro e w2 ⟨hm, hg⟩
  refine ⟨?_, hg⟩
  rw [lookV_file]
  cases hf : fileOf n fs with
  | none => rw [hf] at hm; exact hm
  | some f => rw [hf] at hm; exact hm

theorem dk_app (h : Dk Z B w p r V F) {n : ByteArray} (hn : NameOk n) {qb : Nat} {pv : Value} {x : List UInt8} (hq : w.heap[qb]? = some (.cells #[pv] 23 (0, 0))) (hx : Bv w pv x) (hroom : tot V + x.length ≤ Z) :
    Calls Tryd.prog 25 #[.pointer (some ⟨p, 0, none⟩), .string n, .slice (some ⟨qb, 0, none⟩) 1 1] w fun e w' => e = .returned (.int .i64 0) ∧ DkTo Z B w p r F w' (appV n x V) := by
  have hN := h.names
  obtain ⟨hZ, h0, born, fs, h1, rfl, rfl⟩ := h
  have key : Calls Tryd.prog 25 #[.pointer (some ⟨p, 0, none⟩), .string n, .slice (some ⟨qb, 0, none⟩) 1 1] w (AppPost B w p r Z (tot (vw fs)) born fs n x) := by
    cases hf : fileOf n fs with
    | none => exact append1_none h1 hf hn hq hx (by omega) (by omega) (by omega)
    | some f => exact append1_some h1 hf hn hq hx (by omega) (by omega) (by omega) (by have := file_len (fileOf_some hf).1 h0; omega)
  refine key.mono ?_
  rintro e w2 ⟨rfl, fs', hd, hs, hv⟩
  have ht := tot_app hN n x
  refine ⟨rfl, _, ⟨hZ, by omega, born, fs', ?_, hv, rfl⟩, hs⟩
  rw [ht, Int.natCast_add]; exact hd

theorem dk_app0 (h : Dk Z B w p r V F) {n : ByteArray} (hn : NameOk n) (hl : lookV n V = none) :
    Calls Tryd.prog 25 #[.pointer (some ⟨p, 0, none⟩), .string n, .slice none 0 0] w fun e w' => e = .returned (.int .i64 0) ∧ DkTo Z B w p r F w' (V ++ [(n, [], 0)]) := by
  obtain ⟨hZ, h0, born, fs, h1, rfl, rfl⟩ := h
  have hf : fileOf n fs = none := by rw [lookV_file] at hl; simpa using hl
  refine (append0_none h1 hf hn (by omega) (by omega) (by omega)).mono ?_
  rintro e w2 ⟨rfl, fs', hd, hs, hv⟩
  have ht : tot (vw fs ++ [(n, [], 0)]) = tot (vw fs) := by simp [tot]
  exact ⟨rfl, _, ⟨hZ, by omega, born, fs', by rw [ht]; exact hd, hv, rfl⟩, hs⟩

theorem dk_sync (h : Dk Z B w p r V F) {n : ByteArray} {b : List UInt8} {s : Nat} (hl : lookV n V = some (b, s)) {qb : Nat} (hq : w.heap[qb]? = some (.cells #[.string n] 9 (0, 0))) :
    Calls Tryd.prog 24 #[.pointer (some ⟨p, 0, none⟩), .slice (some ⟨qb, 0, none⟩) 1 1] w fun e w' => e = .returned (.int .i64 0) ∧ DkTo Z B w p r F w' (synV n V) := by
  obtain ⟨hZ, h0, born, fs, h1, rfl, rfl⟩ := h
  rw [lookV_file] at hl
  obtain ⟨f, hf, _⟩ := Option.map_eq_some_iff.1 hl
  refine (sync1 h1 hf hq (by have := file_len (fileOf_some hf).1 h0; omega)).mono ?_
  rintro e w2 ⟨rfl, fs', hd, hs, hv⟩
  have ht := tot_syn n (vw fs)
  exact ⟨rfl, _, ⟨hZ, by omega, born, fs', by rw [ht]; exact hd, hv, rfl⟩, hs⟩

theorem dk_del_none (h : Dk Z B w p r V F) {n : ByteArray} (hl : lookV n V = none) {qb : Nat} (hq : w.heap[qb]? = some (.cells #[.string n] 9 (0, 0))) :
    Calls Tryd.prog 27 #[.pointer (some ⟨p, 0, none⟩), .slice (some ⟨qb, 0, none⟩) 1 1] w fun e w' => e = .returned (.int .i64 4) ∧ Grow w w' := by
  obtain ⟨hZ, h0, born, fs, h1, rfl, rfl⟩ := h
  exact delete1_none h1 (by rw [lookV_file] at hl; simpa using hl) hq

theorem dk_del (h : Dk Z B w p r V F) {n : ByteArray} {b : List UInt8} {s : Nat} (hl : lookV n V = some (b, s)) {qb : Nat} (hq : w.heap[qb]? = some (.cells #[.string n] 9 (0, 0))) :
    Calls Tryd.prog 27 #[.pointer (some ⟨p, 0, none⟩), .slice (some ⟨qb, 0, none⟩) 1 1] w fun e w' => e = .returned (.int .i64 0) ∧ DkTo Z B w p r F w' (delV n V) := by
  have ht := tot_del h.names hl
  obtain ⟨hZ, h0, born, fs, h1, rfl, rfl⟩ := h
  rw [lookV_file] at hl
  obtain ⟨f, hf, hfb⟩ := Option.map_eq_some_iff.1 hl
  cases hfb
  refine (delete1 h1 hf hq (by have := file_len (fileOf_some hf).1 h0; omega) (by omega) (by omega)).mono ?_
  rintro e w2 ⟨rfl, fs', hd, hs, hv⟩
  refine ⟨rfl, _, ⟨hZ, by omega, born, fs', ?_, hv, rfl⟩, hs⟩
  have : ((tot (delV n (vw fs)) : Nat) : Int) = (tot (vw fs) : Int) - (f.b.length : Int) := by omega
  rw [this]; exact hd

theorem dk_ren (h : Dk Z B w p r V F) {m n : ByteArray} (hmn : m ≠ n) (hn : NameOk n) {b b0 : List UInt8} {s s0 : Nat} (hlm : lookV m V = some (b, s)) (hln : lookV n V = some (b0, s0)) :
    Calls Tryd.prog 33 #[.pointer (some ⟨p, 0, none⟩), .string m, .string n] w fun e w' => e = .returned (.int .i64 0) ∧ DkTo Z B w p r F w' (renV m n b s V) := by
  have ht := tot_ren h.names hmn hlm hln
  obtain ⟨hZ, h0, born, fs, h1, rfl, rfl⟩ := h
  rw [lookV_file] at hlm hln
  obtain ⟨f, hf, hfb⟩ := Option.map_eq_some_iff.1 hlm
  obtain ⟨g, hg, hgb⟩ := Option.map_eq_some_iff.1 hln
  cases hfb; cases hgb
  refine (rename_old h1 hf hg hmn hn (by have := file_len (fileOf_some hg).1 h0; omega) (by omega) (by omega)).mono ?_
  rintro e w2 ⟨rfl, fs', hd, hs, hv⟩
  refine ⟨rfl, _, ⟨hZ, by omega, born, fs', ?_, hv, rfl⟩, hs⟩
  have : ((tot (renV m n f.b f.synced (vw fs)) : Nat) : Int) = (tot (vw fs) : Int) - (g.b.length : Int) := by omega
  rw [this]; exact hd
end Go.Proofs.YtpiedpdffkfhpaaDoor

/- Log.cut. -/
namespace Go.Proofs.YtpiedpdffkfhpaaDoor
open Go.RowKit Go.Gl Go.Wal Go.Sort

abbrev tmpT (nm : List UInt8) : ByteArray := (⟨nm.toArray⟩ : ByteArray) ++ ⟨#[46, 116, 109, 112]⟩
def setV (n : ByteArray) (x : List UInt8) (V : Vw) : Vw := V.map fun e => if e.1 = n then (e.1, x, x.length) else e

theorem LogAt.sep {Z B : Nat} {w w' : World} {lb p p' r : Nat} {nm : List UInt8} {last : Int} {V : Vw} {F F' : Nat → Prop} (hl : LogAt w lb p nm last) (h : Dk Z B w p' r V F) (hs : Sep F w w' F') : LogAt w' lb p nm last :=
  ⟨(hs.out lb (lt_of_getElem? hl.self) (h.apart hl.self (by decide) (by decide) (by decide))).trans hl.self⟩

theorem app_new {n : ByteArray} {V : Vw} (h : lookV n V = none) (x : List UInt8) : appV n x V = V ++ [(n, x, 0)] := by
  unfold appV; rw [any_look, h]; rfl

theorem look_off {n : ByteArray} {V : Vw} (h : lookV n V = none) : ∀ g ∈ V, g.1 ≠ n := by
  induction V with
  | nil => intro g hg; cases hg
  | cons e V ih =>
    rw [look_cons] at h
    by_cases hn : n = e.1
    · rw [if_pos hn] at h; cases h
    · rw [if_neg hn] at h
      intro g hg
      rcases List.mem_cons.1 hg with rfl | hg
      · exact fun x => hn x.symm
      · exact ih h g hg

theorem look_last {n : ByteArray} {V : Vw} (h : lookV n V = none) (q : List UInt8 × Nat) : lookV n (V ++ [(n, q)]) = some q := by
  induction V with
  | nil => rw [List.nil_append, look_cons, if_pos rfl]
  | cons e V ih =>
    rw [look_cons] at h
    by_cases hn : n = e.1
    · rw [if_pos hn] at h; cases h
    · rw [if_neg hn] at h
      rw [List.cons_append, look_cons, if_neg hn, ih h]

theorem syn_new {n : ByteArray} {V : Vw} (h : lookV n V = none) (x : List UInt8) : synV n (V ++ [(n, x, 0)]) = V ++ [(n, x, x.length)] := by
  unfold synV
  rw [List.map_append, map_off (look_off h)]
  simp

theorem ren_new {m n : ByteArray} {V : Vw} (h : lookV m V = none) (x : List UInt8) : renV m n x x.length (V ++ [(m, x, x.length)]) = setV n x V := by
  unfold renV delV setV
  rw [List.filter_append, List.filter_eq_self.2 (fun g hg => by have := look_off h g hg; simp; exact fun x => this x.symm), List.filter_cons_of_neg (by simp), List.filter_nil, List.append_nil]

theorem look_app {m n : ByteArray} (hmn : n ≠ m) (V : Vw) (q : List UInt8 × Nat) : lookV n (V ++ [(m, q)]) = lookV n V := by
  induction V with
  | nil => rw [List.nil_append, look_cons, if_neg hmn]
  | cons e V ih => rw [List.cons_append, look_cons, look_cons, ih]

theorem Nums.dk {N Z B : Nat} {w w' : World} {p r : Nat} {V : Vw} {F F' : Nat → Prop} (h : Nums N B w) (hd : Dk Z B w p r V F) (hs : Sep F w w' F') : Nums N B w' :=
  h.keep (fun b hb => hs.out b (by have := hd.base; omega) (fun hf => by have := (hd.foot hf).1; omega))

set_option maxRecDepth 100000 in
set_option maxHeartbeats 4000000 in
theorem cut_any {N Z B : Nat} {w : World} {lb p r : Nat} {nm : List UInt8} (hnm : nm.length ≤ 32) {last : Int} {V : Vw} {F : Nat → Prop} (hl : LogAt w lb p nm last) (h : Dk Z B w p r V F) (hN : Nums N B w) (hnone : lookV (tmpT nm) V = none) (htk : NameOk (tmpT nm)) {n : Nat} (hne : tmpT nm ≠ segT nm n) (hsk : NameOk (segT nm n)) {b0 : List UInt8} {s0 : Nat} (hseg : lookV (segT nm n) V = some (b0, s0)) (hn : n < N) (h6 : n < 1000000) {bv : Value} {x : List UInt8} (hx : Bv w bv x) (hroom : tot V + x.length ≤ Z) :
    Calls Tryd.prog 23 #[.pointer (some ⟨lb, 0, none⟩), .int .i64 n, bv] w fun e w' => e = .returned (.int .i64 0) ∧ DkTo Z B w p r F w' (setV (segT nm n) x V) := by
  obtain ⟨l0, l1, l2, ll⟩ := hl.cells
  obtain ⟨xa, xc, rfl⟩ := hx.slice
  have H := Lib.hid h
  have Hl := Lib.hid hl
  have HN := Lib.hid hN
  have Hx := Lib.hid hx
  clear hl h hN hx
  go_enter Tryd.func23, Tryd.ntmps23
  go_wp2_with fail
  have hgA := Grow.alloc w (.cells #[.string (tmpT nm)] 9)
  (with_reducible refine (dk_del_none (H.out.grow hgA) hnone (heap_alloc_new _ _)).mono ?_)
  rintro e w1 ⟨rfl, hg1⟩
  have hg1' := hgA.trans hg1
  obtain ⟨m0, m1, m2, ml⟩ := (Hl.out.grow hg1').cells
  have H1 := Lib.hid (H.out.grow hg1')
  have Hx1 := Lib.hid (Hx.out.grow hg1')
  have Hl1 := Lib.hid (Hl.out.grow hg1')
  have HN1 := Lib.hid (HN.out.grow hg1' H.out.base)
  have Hs1 := Lib.hid (Sep.ofGrow (F := F) hg1')
  clear hgA hg1 hg1' l0 l1 l2 ll
  go_wp2_with fail
  have hgB := Grow.alloc w1 (.cells #[.slice xa x.length xc] 23)
  (with_reducible refine (dk_app (H1.out.grow hgB) htk (heap_alloc_new _ _) (Hx1.out.grow hgB) hroom).mono ?_)
  rintro e w2 ⟨rfl, F2, hd2, hs2⟩
  rw [app_new hnone] at hd2
  have hs12 := (Sep.ofGrow hgB).trans hs2
  have hl2 := Hl1.out.sep H1.out hs12
  obtain ⟨k0, k1, k2, kl⟩ := hl2.cells
  have H2 := Lib.hid hd2
  have Hl2 := Lib.hid hl2
  have HN2 := Lib.hid (HN1.out.dk H1.out hs12)
  have Hs2 := Lib.hid (Hs1.out.trans hs12)
  clear hgB hs2 hd2 hs12 hl2 m0 m1 m2 ml
  go_wp2_with fail
  have hgC := Grow.alloc w2 (.cells #[.string (tmpT nm)] 9)
  (with_reducible refine (dk_sync (H2.out.grow hgC) (look_last hnone (x, 0)) (heap_alloc_new _ _)).mono ?_)
  rintro e w3 ⟨rfl, F3, hd3, hs3⟩
  rw [syn_new hnone] at hd3
  have hs23 := (Sep.ofGrow hgC).trans hs3
  have hl3 := Hl2.out.sep H2.out hs23
  obtain ⟨j0, j1, j2, jl⟩ := hl3.cells
  have H3 := Lib.hid hd3
  have HN3 := Lib.hid (HN2.out.dk H2.out hs23)
  have Hs3 := Lib.hid (Hs2.out.trans hs23)
  have Hl3 := Lib.hid hl3
  clear hgC hs3 hd3 hs23 hl3 k0 k1 k2 kl
  go_wp2_with fail
  refine wp_region_pi (fun W => W.cell? ⟨lb, 0, none⟩ = some (.pointer (some ⟨p, 0, none⟩)) ∧ W.cell? ⟨lb, 1, none⟩ = some (.string ⟨nm.toArray⟩) ∧ lb < W.heap.size) [(0, false), (1, false), (2, false), (3, false), (4, false), (5, false), (6, false), (7, false), (8, false), (9, false), (10, true), (11, true), (12, false)] (by kernel_rfl) (by kernel_rfl) (fun c a d v w h => by cases d <;> exact h) (by obtain ⟨q0, q1, _, ql⟩ := (Hl3.out.grow (Grow.drew w3)).cells; exact ⟨q0, q1, ql⟩) ?_
  simp only [arrange, nth]
  clear j0 j1 j2 jl
  repeat (first | (refine wpPi_quiet (v := ?_) (by rfl) (fun W hW => ?_) ?_; rotate_left; (obtain ⟨hW0, hW1, hW2⟩ := hW; go_simp; with_reducible rfl); simp only [Act.put, List.setIfInBounds_toArray, List.set_cons_zero, List.set_cons_succ]) | (refine wpPi_off (by rfl) ?_; simp only [Act.put, List.setIfInBounds_toArray, List.set_cons_zero, List.set_cons_succ]))
  have hgD := Grow.drew w3
  refine wpPi_call (by rfl) (by go_simp) (segment_any (HN3.out.grow hgD H3.out.base) hn h6 (name := nm) (by omega)) ?_
  rintro e w4 ⟨rfl, hg4⟩
  have hg34 := hgD.trans hg4
  refine ⟨_, rfl, (by obtain ⟨q0, q1, _, ql⟩ := (Hl3.out.grow hg34).cells; exact ⟨q0, q1, ql⟩), ?_⟩
  try simp only [Act.put, List.setIfInBounds_toArray, List.set_cons_zero, List.set_cons_succ]
  refine wpPi_call (by rfl) (by go_simp) (dk_ren (H3.out.grow hg34) hne hsk (look_last hnone (x, x.length)) ((look_app (Ne.symm hne) V (x, x.length)).trans hseg)) ?_
  rintro e w5 ⟨rfl, F5, hd5, hs5⟩
  rw [ren_new hnone] at hd5
  have hs45 := (Sep.ofGrow hg34).trans hs5
  have Hl5 := Lib.hid (Hl3.out.sep H3.out hs45)
  have Hend := Lib.hid (And.intro hd5 (Hs3.out.trans hs45))
  refine ⟨_, rfl, (by obtain ⟨q0, q1, _, ql⟩ := Hl5.out.cells; exact ⟨q0, q1, ql⟩), ?_⟩
  clear hgD hg4 hg34 hd5 hs5 hs45
  try simp only [Act.put, List.setIfInBounds_toArray, List.set_cons_zero, List.set_cons_succ]
  repeat (first | (refine wpPi_quiet (v := ?_) (by rfl) (fun W hW => ?_) ?_; rotate_left; (obtain ⟨hW0, hW1, hW2⟩ := hW; go_simp; with_reducible rfl); simp only [Act.put, List.setIfInBounds_toArray, List.set_cons_zero, List.set_cons_succ]) | (refine wpPi_off (by rfl) ?_; simp only [Act.put, List.setIfInBounds_toArray, List.set_cons_zero, List.set_cons_succ]))
  refine wpPi_nil ?_
  go_wp2
  go_ret
  exact ⟨rfl, F5, Hend.out.1, Hend.out.2⟩
end Go.Proofs.YtpiedpdffkfhpaaDoor

/- The names of the segments and of the temporary file. -/
namespace Go.Proofs.YtpiedpdffkfhpaaDoor
open Go.RowKit Go.Gl Go.Wal Go.Sort

/-- A log's name. -/
structure NmOk (nm : List UInt8) : Prop where
  pos : 1 ≤ nm.length
  len : nm.length ≤ 32
  ok : ∀ c ∈ nm, okc c = true
theorem nmOk_w : NmOk wN := ⟨by decide, by decide, by decide⟩
theorem nmOk_log : NmOk logN := ⟨by decide, by decide, by decide⟩

theorem dig_ok (n : Nat) : ∀ c ∈ Lib.decDigits n, 48 ≤ c.toNat ∧ c.toNat ≤ 57 := by
  induction n using Nat.strongRecOn with
  | _ n ih =>
    rw [Lib.decDigits]
    split
    · intro c hc
      rw [List.mem_singleton] at hc
      subst hc
      simp only [UInt8.toNat_ofNat']
      omega
    · intro c hc
      rcases List.mem_append.1 hc with h | h
      · exact ih (n / 10) (by omega) c h
      · rw [List.mem_singleton] at h
        subst h
        simp only [UInt8.toNat_ofNat']
        omega

theorem padD_len {n : Nat} (h : n < 1000000) : (padD n).length = 6 := by
  have := digits_small h
  simp [padD]; omega

theorem nameOk_list {l : List UInt8} (h1 : 1 ≤ l.length) (h2 : l.length ≤ 64) (h : ∀ c ∈ l, okc c = true) : NameOk ⟨l.toArray⟩ := by
  refine ⟨by simpa [ByteArray.size] using h1, by simpa [ByteArray.size] using h2, fun i hi => h _ ?_⟩
  have hi' : i < l.length := by simpa [ByteArray.size] using hi
  have : (⟨l.toArray⟩ : ByteArray)[i] = l[i] := rfl
  rw [this]
  exact List.getElem_mem hi'

theorem okc_digit {c : UInt8} (h : 48 ≤ c.toNat ∧ c.toNat ≤ 57) : okc c = true := by simp [okc, h.1, h.2]

theorem segT_ok {nm : List UInt8} (hm : NmOk nm) {n : Nat} (h : n < 1000000) : NameOk (segT nm n) := by
  have h1 := hm.pos
  have h2 := hm.len
  have hl := padD_len h
  refine nameOk_list (by simp [segB]; omega) (by simp [segB, hl]; omega) ?_
  intro c hc
  rcases List.mem_append.1 hc with hc | hc
  · exact hm.ok c hc
  · rcases List.mem_cons.1 hc with rfl | hc
    · decide
    · rcases List.mem_append.1 hc with hc | hc
      · rw [(List.mem_replicate.1 hc).2]; decide
      · exact okc_digit (dig_ok n c hc)

theorem tmpT_list (nm : List UInt8) : tmpT nm = ⟨(nm ++ [46, 116, 109, 112]).toArray⟩ := ba_append nm [46, 116, 109, 112]

theorem tmpT_ok {nm : List UInt8} (hm : NmOk nm) : NameOk (tmpT nm) := by
  have h1 := hm.pos
  have h2 := hm.len
  rw [tmpT_list]
  refine nameOk_list (by simp) (by simp; omega) ?_
  intro c hc
  rcases List.mem_append.1 hc with hc | hc
  · exact hm.ok c hc
  · exact (by decide : ∀ c ∈ ([46, 116, 109, 112] : List UInt8), okc c = true) c hc

theorem tmpT_ne (nm : List UInt8) (n : Nat) : tmpT nm ≠ segT nm n := by
  rw [tmpT_list]
  intro h
  have h1 : nm ++ [46, 116, 109, 112] = segB nm n := by
    have := congrArg (fun b : ByteArray => b.data.toList) h
    simpa [segT] using this
  simp [segB] at h1
end Go.Proofs.YtpiedpdffkfhpaaDoor

/- What the digits of a segment's name say. -/
namespace Go.Proofs.YtpiedpdffkfhpaaDoor
open Go.RowKit Go.Gl Go.Wal Go.Sort

theorem decFrom_append (x y : List UInt8) : ∀ acc, Lib.decFrom acc (x ++ y) = (Lib.decFrom acc x).bind fun a => Lib.decFrom a y := by
  induction x with
  | nil => intro acc; rfl
  | cons b r ih =>
    intro acc
    simp only [List.cons_append, Lib.decFrom]
    cases Lib.digitVal b with
    | none => rfl
    | some d => simp only [ih]; try rfl

theorem digit_val {k : Nat} (h : k < 10) : Lib.digitVal (UInt8.ofNat (48 + k)) = some k := by
  have : k = 0 ∨ k = 1 ∨ k = 2 ∨ k = 3 ∨ k = 4 ∨ k = 5 ∨ k = 6 ∨ k = 7 ∨ k = 8 ∨ k = 9 := by omega
  rcases this with rfl | rfl | rfl | rfl | rfl | rfl | rfl | rfl | rfl | rfl <;> decide

theorem dec_digits (n : Nat) : Lib.decFrom 0 (Lib.decDigits n) = some n := by
  induction n using Nat.strongRecOn with
  | _ n ih =>
    rw [Lib.decDigits]
    split
    · rename_i h
      simp only [Lib.decFrom, digit_val h]; congr 1; omega
    · rename_i h
      rw [decFrom_append, ih (n / 10) (by omega)]
      simp only [Option.bind_some, Lib.decFrom, digit_val (Nat.mod_lt n (by omega : 10 > 0))]
      congr 1
      omega

theorem dec_zeros (k : Nat) (l : List UInt8) : Lib.decFrom 0 (List.replicate k 48 ++ l) = Lib.decFrom 0 l := by
  induction k with
  | zero => rfl
  | succ k ih =>
    rw [List.replicate_succ, List.cons_append, Lib.decFrom, show Lib.digitVal 48 = some 0 by decide]
    simpa using ih

theorem dec_pad (n : Nat) : Lib.decFrom 0 (padD n) = some n := by rw [padD, dec_zeros, dec_digits]

theorem atoi_pad {n : Nat} (h : n < 1000000) : Lib.atoi (padD n) = some (n : Int) := by
  have hl := padD_len h
  have hd := dec_pad n
  have hall : ∀ c ∈ padD n, 48 ≤ c.toNat := fun c hc => by
    rcases List.mem_append.1 hc with hc | hc
    · rw [(List.mem_replicate.1 hc).2]; decide
    · exact (dig_ok n c hc).1
  cases hp : padD n with
  | nil => rw [hp] at hl; cases hl
  | cons b r =>
    have hb := hall b (by rw [hp]; exact List.mem_cons_self ..)
    have h1 : (b == 45) = false := by
      cases hx : b == 45 with
      | false => rfl
      | true => rw [eq_of_beq hx] at hb; exact absurd hb (by decide)
    have h2 : (b == 43) = false := by
      cases hx : b == 43 with
      | false => rfl
      | true => rw [eq_of_beq hx] at hb; exact absurd hb (by decide)
    rw [hp] at hd
    simp [Lib.atoi, h1, h2, Lib.decNat, hd]

theorem segT_inj {nm : List UInt8} {m n : Nat} (h : segT nm m = segT nm n) : m = n := by
  have h1 : segB nm m = segB nm n := by
    have := congrArg (fun b : ByteArray => b.data.toList) h
    simpa [segT] using this
  have h2 : padD m = padD n := by simpa [segB] using h1
  have h3 := dec_pad m
  rw [h2, dec_pad n] at h3
  cases h3; rfl
end Go.Proofs.YtpiedpdffkfhpaaDoor

/- Log.segments. -/
namespace Go.Proofs.YtpiedpdffkfhpaaDoor
open Go.RowKit Go.Gl Go.Wal Go.Sort

theorem atoi_call {n : Nat} (h : n < 1000000) (w : World) : Calls Tryd.prog 36 #[.string ⟨(padD n).toArray⟩] w fun e w' => e = .returned (.tuple #[.int .i64 n, .nilIface]) ∧ Grow w w' := by
  have hl := padD_len h
  refine (Any.strconv_Atoi Tryd.atoi ⟨(padD n).toArray⟩ n (by simp [ByteArray.size, hl]) (by simpa using atoi_pad h) w).mono ?_
  rintro e w' ⟨rfl, t, rfl⟩
  exact ⟨rfl, Lib.bytesWorld_below w _ t⟩

theorem trimP_any (s p : ByteArray) (w : World) : Calls Tryd.prog 37 #[.string s, .string p] w fun e w' => e = .returned (.string ⟨(Lib.trimPrefix s.data.toList p.data.toList).toArray⟩) ∧ w' = w := Any.strings_TrimPrefix Tryd.trimP s p w

theorem trim_call (nm : List UInt8) (n : Nat) (w : World) : Calls Tryd.prog 37 #[.string (segT nm n), .string ((⟨nm.toArray⟩ : ByteArray) ++ ⟨#[45]⟩)] w fun e w' => e = .returned (.string ⟨(padD n).toArray⟩) ∧ w' = w := by
  have h2 : ((⟨nm.toArray⟩ : ByteArray) ++ ⟨#[45]⟩).data.toList = nm ++ [45] := by rw [ba_append nm [45]]
  have h3 : (segT nm n).data.toList = nm ++ 45 :: padD n := rfl
  generalize segT nm n = s at *
  generalize (⟨nm.toArray⟩ : ByteArray) ++ ⟨#[45]⟩ = p at *
  refine (trimP_any s p w).mono ?_
  rintro e w' ⟨he, hw⟩
  refine ⟨?_, hw⟩
  have h4 : nm ++ 45 :: padD n = (nm ++ [45]) ++ padD n := by simp
  have h5 : Lib.trimPrefix ((nm ++ [45]) ++ padD n) (nm ++ [45]) = padD n := by
    unfold Lib.trimPrefix Lib.hasPrefix
    rw [if_pos (List.isPrefixOf_iff_prefix.2 (List.prefix_append _ _))]
    exact List.drop_left ..
  rw [he, h2, h3, h4, h5]
end Go.Proofs.YtpiedpdffkfhpaaDoor

/- Log.segments: the walk (probe). -/
namespace Go.Proofs.YtpiedpdffkfhpaaDoor
open Go.RowKit Go.Gl Go.Wal Go.Sort

theorem dk_list {Z B : Nat} {w : World} {p r : Nat} {V : Vw} {F : Nat → Prop} (h : Dk Z B w p r V F) (hmax : V.length < 1000000000) (pf : ByteArray) {qb : Nat} (hq : w.heap[qb]? = some (.cells #[.string pf] 9 (0, 0))) :
    Calls Tryd.prog 31 #[.pointer (some ⟨p, 0, none⟩), .slice (some ⟨qb, 0, none⟩) 1 1] w (ListPost w (((V.map (·.1)).filter fun s => Lib.hasPrefix s.data.toList pf.data.toList).map fun s => s.data.toList)) := by
  obtain ⟨hZ, h0, born, fs, h1, rfl, rfl⟩ := h
  have := list_pre h1 (by simpa [vw] using hmax) pf hq
  have he : pick (fun s => Lib.hasPrefix s.data.toList pf.data.toList) (fs.map Fe.ent) = (((vw fs).map (·.1)).filter fun s => Lib.hasPrefix s.data.toList pf.data.toList).map fun s => s.data.toList := by
    unfold pick
    rw [names_vw, List.filter_map, List.filter_map, List.map_map, List.map_map]
    rfl
  rw [he] at this
  exact this
end Go.Proofs.YtpiedpdffkfhpaaDoor

/- Log.segments: the walk. -/
namespace Go.Proofs.YtpiedpdffkfhpaaDoor
open Go.RowKit Go.Gl Go.Wal Go.Sort


def OwnI (B : Nat) (w : World) (v : Value) (ns : List Nat) : Prop := Row1 3 B w v (ns.map fun n : Nat => Value.int .i64 n)

theorem ownI_nil (B : Nat) (w : World) : OwnI B w (.slice none 0 0) [] := row1_nil _ _ _
theorem OwnI.slice {B : Nat} {w : World} {v : Value} {ns : List Nat} (h : OwnI B w v ns) : ∃ a c, v = .slice a ns.length c := by
  obtain ⟨a, c, rfl⟩ := Row1.slice h
  exact ⟨a, c, by simp⟩
theorem OwnI.grow {B : Nat} {w w' : World} {v : Value} {ns : List Nat} (h : OwnI B w v ns) (hg : Grow w w') : OwnI B w' v ns := Row1.grow h hg

theorem append_int {B : Nat} {w : World} {v : Value} {ns : List Nat} (n : Nat) (h : OwnI B w v ns) (hB : B ≤ w.heap.size) (hlen : ns.length + 1 ≤ 1000000000000) :
    ∃ v' w', (Builtin.append_ #[32, 32] 32 #[v, .slice (some ⟨w.heap.size, 0, none⟩) 1 1]).run Tryd.prog (w.alloc (.cells #[.int .i64 n] 3)) = .ok v' w' ∧ OwnI B w' v' (ns ++ [n]) ∧ Below B w w' := by
  have hga : Grow w (w.alloc (.cells #[.int .i64 n] 3)) := Grow.alloc _ _
  have hsrc : Src Tryd.prog 1 32 (.slice (some ⟨w.heap.size, 0, none⟩) 1 1) 1 [.int .i64 n] (w.alloc (.cells #[.int .i64 n] 3)) :=
    Src.ofSlice _ Tryd.underlying32 _ _ _ _ rfl (cell_one_new w _ _) (fun x hx => by rw [List.mem_singleton.1 hx]; rfl)
  obtain ⟨v', w', r1, r2, r3, r4⟩ := run_append_row (ty := 32) Tryd.underlying32 Tryd.infoI rfl (Row1.grow h hga) hsrc (by simp; omega) (by rw [List.length_map]; unfold maxLen; omega) (by rw [List.length_map]; omega)
  refine ⟨v', w', r1, ?_, below_grown (hga.mono hB) (by simp; omega) (Row1.grow h hga) r3⟩
  unfold OwnI
  rw [List.map_append]
  exact r2
end Go.Proofs.YtpiedpdffkfhpaaDoor

/- Log.segments: the walk. -/
namespace Go.Proofs.YtpiedpdffkfhpaaDoor
open Go.RowKit Go.Gl Go.Wal Go.Sort

/-- The names that segments asks for, in order. -/
def segNames (nm : List UInt8) (V : Vw) : List (List UInt8) := ((((V.map (·.1)).filter fun s => Lib.hasPrefix s.data.toList ((⟨nm.toArray⟩ : ByteArray) ++ ⟨#[45]⟩).data.toList).map fun s => s.data.toList)).mergeSort (fun x y => decide (x ≤ y))

def SegInv (w1 : World) (ns : List Nat) (ov iv : Value) (wr : World) : Prop :=
  ∃ i : Nat, iv = .int .i64 i ∧ i ≤ ns.length ∧ OwnI w1.heap.size wr ov (ns.take i) ∧ Below w1.heap.size w1 wr

set_option maxRecDepth 100000 in
set_option maxHeartbeats 4000000 in
theorem segments_any {N Z B : Nat} {w : World} {lb p r : Nat} {nm : List UInt8} (hm : NmOk nm) {last : Int} {V : Vw} {F : Nat → Prop} (hl : LogAt w lb p nm last) (h : Dk Z B w p r V F) (hN : Nums N B w) (hmax : V.length < 1000000000) {ns : List Nat} (hns : ∀ n ∈ ns, n < N ∧ n < 1000000) (hsort : segNames nm V = ns.map (segB nm)) :
    Calls Tryd.prog 26 #[.pointer (some ⟨lb, 0, none⟩)] w fun e w' => ∃ v, e = .returned v ∧ OwnI w.heap.size w' v ns ∧ Grow w w' := by
  obtain ⟨l0, l1, l2, ll⟩ := hl.cells
  have hlen : ¬ 9223372036854775807 < nm.length + 1 := by have := hm.len; omega
  have H := Lib.hid h
  have HN := Lib.hid hN
  have Hl := Lib.hid hl
  clear hl h hN
  go_enter Tryd.func26, Tryd.ntmps26
  go_wp2_with fail
  have hcl := Grow.cells (w := w)
  refine wp_region_pi (fun W => Below w.heap.size w W) [(0, false), (1, false), (2, false), (3, false), (4, false), (5, false), (6, false), (7, false), (8, false), (12, false), (9, true), (10, true), (11, false)] (by kernel_rfl) (by kernel_rfl) (fun c a d v w h => by cases d <;> exact h) (Grow.drew _) ?_
  simp only [arrange, nth]
  repeat (first | (refine wpPi_quiet (v := ?_) (by rfl) (fun W hW => ?_) ?_; rotate_left; (obtain hW := hW; go_simp; with_reducible rfl); simp only [Act.put, List.setIfInBounds_toArray, List.set_cons_zero, List.set_cons_succ]) | (refine wpPi_off (by rfl) ?_; simp only [Act.put, List.setIfInBounds_toArray, List.set_cons_zero, List.set_cons_succ]))
  refine wpPi_act (by rfl) (fun K hK => ?_)
  go_simp
  refine hK _ _ ⟨(Grow.drew w).trans (Grow.alloc _ _), ?_⟩
  clear hK K
  try simp only [Act.put, List.setIfInBounds_toArray, List.set_cons_zero, List.set_cons_succ]
  have hgA := (Grow.drew w).trans (Grow.alloc w.drew (.cells #[.string ((⟨nm.toArray⟩ : ByteArray) ++ ⟨#[45]⟩)] 9))
  refine wpPi_call (by rfl) (by go_simp) (dk_list (H.out.grow hgA) hmax _ (heap_alloc_new _ _)) ?_
  rintro e w1 ⟨nv, rfl, hrow, hg1⟩
  have hg1' := hgA.trans hg1
  refine ⟨_, rfl, hg1', ?_⟩
  have hnl : ns.length = (((V.map (·.1)).filter fun s => Lib.hasPrefix s.data.toList ((⟨nm.toArray⟩ : ByteArray) ++ ⟨#[45]⟩).data.toList).map fun s => s.data.toList).length := by
    have := congrArg List.length hsort
    rw [List.length_map, segNames, List.length_mergeSort] at this
    exact this.symm
  have hnl9 : ns.length < 1000000000 := by
    rw [hnl, List.length_map]
    have h9 := List.length_filter_le (fun s : ByteArray => Lib.hasPrefix s.data.toList ((⟨nm.toArray⟩ : ByteArray) ++ ⟨#[45]⟩).data.toList) (V.map (·.1))
    rw [List.length_map] at h9
    omega
  rw [← hnl] at hrow
  unfold segNames at hsort
  rw [hsort] at hrow
  clear hnl hsort
  rcases hrow.2 with ⟨rfl, hn0⟩ | ⟨gN, cap, cur, rfl, hge, hgN, hnc, hcm, hcs, htk⟩
  · have hns0 : ns = [] := List.eq_nil_of_length_eq_zero hn0
    subst hns0
    have Hg := Lib.hid hg1'
    clear hgA hg1 hrow hg1'
    try simp only [Act.put, List.setIfInBounds_toArray, List.set_cons_zero, List.set_cons_succ]
    repeat (first | (refine wpPi_quiet (v := ?_) (by rfl) (fun W hW => ?_) ?_; rotate_left; (obtain hW := hW; go_simp; with_reducible rfl); simp only [Act.put, List.setIfInBounds_toArray, List.set_cons_zero, List.set_cons_succ]) | (refine wpPi_off (by rfl) ?_; simp only [Act.put, List.setIfInBounds_toArray, List.set_cons_zero, List.set_cons_succ]))
    refine wpPi_nil ?_
    go_wp2_with fail
    refine wp_loop_rounds 1 ?_
    rw [rounds_succ]
    go_wp2
    go_ret
    exact ⟨_, rfl, ownI_nil _ _, Hg.out⟩
  · have hnm : ∀ (i n : Nat), ns[i]? = some n → ∀ W : World, W.heap[gN]? = some (.cells cur 9 (0, 0)) → W.cell? ⟨gN, i, none⟩ = some (.string (segT nm n)) := fun i n hi W hW => by
      have h2 : ((ns.map (segB nm)).map encStr)[i]? = some (.string (segT nm n)) := by simp [hi, encStr, segT]
      rw [← htk, Nat.mul_one, List.getElem?_take] at h2
      split at h2
      · have h3 : cur[i]? = some (.string (segT nm n)) := by simpa using h2
        simp [World.cell?, hW, h3]
      · cases h2
    have Hnm := Lib.hid hnm
    have Hg := Lib.hid hg1'
    have HgN := Lib.hid hgN
    have Hns := Lib.hid hns
    have hN1 := HN.out.grow hg1' H.out.base
    have HN1 := Lib.hid hN1
    have Hl1 := Lib.hid (Hl.out.grow hg1')
    have hB1 : B ≤ w1.heap.size := Nat.le_trans H.out.base hg1'.size
    clear hgA hg1 hrow hg1' hgN hnc hcm hcs htk hge hnm hns hN1 l0 l1 l2 ll
    try simp only [Act.put, List.setIfInBounds_toArray, List.set_cons_zero, List.set_cons_succ]
    repeat (first | (refine wpPi_quiet (v := ?_) (by rfl) (fun W hW => ?_) ?_; rotate_left; (obtain hW := hW; go_simp; with_reducible rfl); simp only [Act.put, List.setIfInBounds_toArray, List.set_cons_zero, List.set_cons_succ]) | (refine wpPi_off (by rfl) ?_; simp only [Act.put, List.setIfInBounds_toArray, List.set_cons_zero, List.set_cons_succ]))
    refine wpPi_nil ?_
    go_wp2_with fail
    go_loopw [3, 20] (fun ov iv wr => SegInv w1 ns ov iv wr) (fun _ iv _ => ns.length - (intOf iv).toNat)
    case atStart => exact ⟨0, rfl, Nat.zero_le _, ownI_nil _ _, Below.refl _ _⟩
    case round =>
      obtain ⟨i, rfl, hi, hown, hb⟩ := hrel
      by_cases hlt : i < ns.length
      · obtain ⟨n, hn⟩ : ∃ n, ns[i]? = some n := ⟨ns[i], by simp [hlt]⟩
        have hrow : wr.heap[gN]? = some (.cells cur 9 (0, 0)) := (hb.block gN (lt_of_getElem? HgN.out)).trans HgN.out
        have hcn := Hnm.out i n hn wr hrow
        have lgN := lt_of_getElem? hrow
        obtain ⟨hnN, hn6⟩ := Hns.out n (List.mem_of_getElem? hn)
        have hlog : LogAt wr lb p nm last := ⟨(hb.block lb (lt_of_getElem? Hl1.out.self)).trans Hl1.out.self⟩
        obtain ⟨k0, k1, k2, kl⟩ := hlog.cells
        have hNr := HN1.out.keep (w' := wr) (fun b hb' => hb.block b (by omega))
        have HNr := Lib.hid hNr
        have Hown := Lib.hid hown
        have Hb := Lib.hid hb
        have Hn := Lib.hid hn
        have hi1 : (i : Int) < (ns.length : Int) := by omega
        have hi0 : (0 : Int) ≤ (i : Int) := by omega
        have hwi : IntKind.i64.wrap ((i : Int) + 1) = (i : Int) + 1 := IntWalk.i64_in _ (by omega)
        obtain ⟨oa, oc, hov⟩ := hown.slice
        rw [List.length_take, Nat.min_eq_left hi] at hov
        subst hov
        clear hNr hown hb hn hrow
        have Ht := Lib.hid (trim_call nm n)
        have Ha := Lib.hid (atoi_call hn6)
        go_wp2_with fail
        (with_reducible refine (Ht.out wr).mono ?_)
        rintro e w2 ⟨rfl, hw2⟩
        have hw2' := hw2.symm
        subst hw2'
        clear hw2
        go_wp2_with fail
        (with_reducible refine (Ha.out wr).mono ?_)
        rintro e w2 ⟨rfl, hg2⟩
        have hlog2 := hlog.grow hg2
        obtain ⟨j0, j1, j2, jl⟩ := hlog2.cells
        have hs := segment_any (HNr.out.grow hg2 (Nat.le_trans hB1 Hb.out.size)) hnN hn6 (name := nm) (by have := hm.len; omega)
        have Hs := Lib.hid hs
        clear hs k0 k1 k2 kl hlog hlog2
        go_wp2_with fail
        (with_reducible refine Hs.out.mono ?_)
        rintro e w3 ⟨rfl, hg3⟩
        have hg23 := hg2.trans hg3
        obtain ⟨v', w', r1, r2, r3⟩ := append_int n (Hown.out.grow hg23) (Nat.le_trans Hb.out.size hg23.size) (by have := List.length_take_le i ns; omega)
        have hrel : SegInv w1 ns v' (.int .i64 ((i : Int) + 1)) w' := by
          refine ⟨i + 1, by simp, hlt, ?_, (Hb.out.trans (hg23.mono Hb.out.size)).trans r3⟩
          rw [List.take_add_one, Hn.out]; exact r2
        have Hrel := Lib.hid hrel
        have Hrun := Lib.hid r1
        clear hrel r1 r2 r3 hg23 hg3 hg2 j0 j1 j2 jl
        go_wp2_with (at_builtin; refine wpList_append rfl rfl rfl rfl Hrun.out ?_)
        go_roundw
        case rel => exact Hrel.out
        case measure => simp [intOf]; omega
      · have hi1 : ns.length ≤ i := by omega
        have hie : i = ns.length := by omega
        rw [hie, List.take_length] at hown
        have Hown := Lib.hid hown
        have Hb := Lib.hid hb
        obtain ⟨oa, oc, rfl⟩ := hown.slice
        clear hown hb hie
        go_wp2
        go_ret
        exact ⟨_, rfl, Hown.out.mono Hg.out.size, Below.trans Hg.out (Hb.out.mono Hg.out.size)⟩
end Go.Proofs.YtpiedpdffkfhpaaDoor

/- The files of a log, one segment behind the other: the plain law of each operation. -/
namespace Go.Proofs.YtpiedpdffkfhpaaDoor
open Go.RowKit Go.Gl Go.Wal Go.Sort

theorem dec_bound : ∀ (x : List UInt8) (acc v : Nat), Lib.decFrom acc x = some v → acc * 10 ^ x.length ≤ v ∧ v < (acc + 1) * 10 ^ x.length
  | [], acc, v, h => by
    simp only [Lib.decFrom, Option.some.injEq] at h
    subst h
    simp
  | c :: x, acc, v, h => by
    simp only [Lib.decFrom] at h
    cases hd : Lib.digitVal c with
    | none => rw [hd] at h; cases h
    | some d =>
      rw [hd] at h
      have hd9 : d < 10 := by
        unfold Lib.digitVal at hd
        split at hd
        · cases hd; omega
        · cases hd
      obtain ⟨h1, h2⟩ := dec_bound x _ _ h
      rw [List.length_cons, Nat.pow_succ]
      have h3 : acc * (10 ^ x.length * 10) ≤ (acc * 10 + d) * 10 ^ x.length := by
        rw [Nat.add_mul, Nat.mul_assoc, Nat.mul_comm (10 ^ x.length) 10]; omega
      have h4 : (acc * 10 + d + 1) * 10 ^ x.length ≤ (acc + 1) * (10 ^ x.length * 10) := by
        rw [Nat.mul_comm (10 ^ x.length) 10, ← Nat.mul_assoc]
        exact Nat.mul_le_mul_right _ (by omega)
      omega

theorem dec_lt : ∀ (x y : List UInt8) (acc u v : Nat), x.length = y.length → Lib.decFrom acc x = some u → Lib.decFrom acc y = some v → x < y → u < v
  | [], [], _, _, _, _, _, _, h => absurd h (List.lt_irrefl _)
  | [], _ :: _, _, _, _, hl, _, _, _ => by cases hl
  | _ :: _, [], _, _, _, hl, _, _, _ => by cases hl
  | c :: x, d :: y, acc, u, v, hl, hu, hv, h => by
    simp only [Lib.decFrom] at hu hv
    cases hc : Lib.digitVal c with
    | none => rw [hc] at hu; cases hu
    | some c' =>
      cases hd : Lib.digitVal d with
      | none => rw [hd] at hv; cases hv
      | some d' =>
        rw [hc] at hu; rw [hd] at hv
        have hl' : x.length = y.length := by simpa using hl
        rcases List.cons_lt_cons_iff.1 h with h1 | ⟨rfl, h1⟩
        · have hcd : c' < d' := by
            have h2 : c.toNat < d.toNat := UInt8.lt_iff_toNat_lt.1 h1
            unfold Lib.digitVal at hc hd
            split at hc
            · split at hd
              · cases hc; cases hd; omega
              · cases hd
            · cases hc
          obtain ⟨_, h2⟩ := dec_bound _ _ _ hu
          obtain ⟨h3, _⟩ := dec_bound _ _ _ hv
          rw [← hl'] at h3
          have h4 : (acc * 10 + c' + 1) * 10 ^ x.length ≤ (acc * 10 + d') * 10 ^ x.length := Nat.mul_le_mul_right _ (by omega)
          dsimp only at hu hv
          omega
        · rw [hc] at hd; cases hd
          exact dec_lt x y _ u v hl' hu hv h1

theorem segB_le {nm : List UInt8} {m n : Nat} (hmn : m < n) (hn : n < 1000000) : segB nm m ≤ segB nm n := by
  intro h
  have h1 : padD n < padD m := by
    unfold segB at h
    induction nm with
    | nil =>
      rcases List.cons_lt_cons_iff.1 h with h | ⟨_, h⟩
      · exact absurd h (by decide)
      · exact h
    | cons c nm ih =>
      rcases List.cons_lt_cons_iff.1 h with h | ⟨_, h⟩
      · exact absurd h (by rw [UInt8.lt_iff_toNat_lt]; omega)
      · exact ih h
  have := dec_lt _ _ 0 n m (by rw [padD_len hn, padD_len (by omega)]) (dec_pad n) (dec_pad m) h1
  omega

/-- The segments a, a + 1, .. -/
def LV (nm : List UInt8) : Nat → List (List UInt8 × Nat) → Vw
  | _, [] => []
  | a, q :: L => (segT nm a, q) :: LV nm (a + 1) L

theorem LV_names (nm : List UInt8) : ∀ (L : List (List UInt8 × Nat)) (a : Nat), (LV nm a L).map (·.1) = (List.range' a L.length).map (segT nm)
  | [], _ => rfl
  | q :: L, a => by simp only [LV, List.map_cons, List.length_cons, List.range'_succ, LV_names nm L]

theorem LV_len (nm : List UInt8) : ∀ (L : List (List UInt8 × Nat)) (a : Nat), (LV nm a L).length = L.length
  | [], _ => rfl
  | q :: L, a => by simp only [LV, List.length_cons, LV_len nm L]

theorem LV_off (nm : List UInt8) : ∀ (L : List (List UInt8 × Nat)) {a k : Nat}, k < a → ∀ g ∈ LV nm a L, g.1 ≠ segT nm k
  | [], _, _, _, g, hg => by cases hg
  | q :: L, a, k, h, g, hg => by
    rcases List.mem_cons.1 hg with rfl | hg
    · exact fun he => by have := segT_inj he; omega
    · exact LV_off nm L (by omega) g hg

theorem sort_names {nm : List UInt8} {a k : Nat} (h : a + k ≤ 1000000) : ((List.range' a k).map (segB nm)).mergeSort (fun x y => decide (x ≤ y)) = (List.range' a k).map (segB nm) := by
  apply List.mergeSort_of_pairwise
  rw [List.pairwise_map]
  refine List.Pairwise.imp_of_mem ?_ (List.pairwise_lt_range' (s := a) (n := k) 1)
  intro x y hx hy hxy
  have := (List.mem_range'_1.1 hy).2
  exact decide_eq_true (segB_le hxy (by omega))

theorem seg_data (nm : List UInt8) (n : Nat) : (segT nm n).data.toList = segB nm n := by simp [segT]

theorem segNames_LV {nm : List UInt8} {a : Nat} {L : List (List UInt8 × Nat)} (h : a + L.length ≤ 1000000) : segNames nm (LV nm a L) = (List.range' a L.length).map (segB nm) := by
  unfold segNames
  rw [LV_names, List.filter_eq_self.2, List.map_map]
  · have : ((fun s : ByteArray => s.data.toList) ∘ segT nm) = segB nm := funext fun n => seg_data nm n
    rw [this]
    exact sort_names h
  · intro s hs
    obtain ⟨n, _, rfl⟩ := List.mem_map.1 hs
    rw [seg_data, show (⟨#[45]⟩ : ByteArray) = ⟨([45] : List UInt8).toArray⟩ from rfl, ba_append]
    unfold Lib.hasPrefix segB
    rw [List.isPrefixOf_iff_prefix]
    exact ⟨padD n, by simp⟩

theorem look_LV (nm : List UInt8) : ∀ (L : List (List UInt8 × Nat)) (a i : Nat), lookV (segT nm (a + i)) (LV nm a L) = L[i]?
  | [], _, _ => rfl
  | q :: L, a, i => by
    rw [LV, look_cons]
    cases i with
    | zero => exact if_pos rfl
    | succ i =>
      rw [if_neg (fun he => by have := segT_inj he; omega), show a + (i + 1) = a + 1 + i by omega, look_LV nm L]
      rfl

theorem look_tmp (nm : List UInt8) : ∀ (L : List (List UInt8 × Nat)) (a : Nat), lookV (tmpT nm) (LV nm a L) = none
  | [], _ => rfl
  | q :: L, a => by rw [LV, look_cons, if_neg (tmpT_ne nm a), look_tmp nm L]

theorem map_LV (nm : List UInt8) (g : List UInt8 × Nat → List UInt8 × Nat) : ∀ (L : List (List UInt8 × Nat)) (a i : Nat), ((LV nm a L).map fun e => if e.1 = segT nm (a + i) then (e.1, g e.2) else e) = LV nm a (L.modify i g)
  | [], _, i => by cases i <;> rfl
  | q :: L, a, i => by
    cases i with
    | zero =>
      rw [LV, List.map_cons, map_off (LV_off nm L (by omega)) (fun e => (e.1, g e.2))]
      simp [LV]
    | succ i =>
      rw [LV, List.map_cons, if_neg (fun he => by have := segT_inj he; omega), show a + (i + 1) = a + 1 + i by omega, map_LV nm g L]
      simp [LV]

theorem syn_LV (nm : List UInt8) (L : List (List UInt8 × Nat)) (a i : Nat) : synV (segT nm (a + i)) (LV nm a L) = LV nm a (L.modify i fun q => (q.1, q.1.length)) := map_LV nm (fun q => (q.1, q.1.length)) L a i
theorem set_LV (nm : List UInt8) (x : List UInt8) (L : List (List UInt8 × Nat)) (a i : Nat) : setV (segT nm (a + i)) x (LV nm a L) = LV nm a (L.modify i fun _ => (x, x.length)) := map_LV nm (fun _ => (x, x.length)) L a i
theorem app_LV (nm : List UInt8) (x : List UInt8) {L : List (List UInt8 × Nat)} (a : Nat) {i : Nat} (hi : i < L.length) : appV (segT nm (a + i)) x (LV nm a L) = LV nm a (L.modify i fun q => (q.1 ++ x, q.2)) := by
  unfold appV
  rw [any_look, look_LV, List.getElem?_eq_getElem hi, if_pos (show (some L[i]).isSome = true from rfl)]
  exact map_LV nm (fun q => (q.1 ++ x, q.2)) L a i
theorem cut_LV (nm : List UInt8) (k : Nat) (L : List (List UInt8 × Nat)) (a i : Nat) : cutV (segT nm (a + i)) k (LV nm a L) = LV nm a (L.modify i fun q => (q.1.take k, k)) := map_LV nm (fun q => (q.1.take k, k)) L a i

theorem snoc_LV (nm : List UInt8) (q : List UInt8 × Nat) : ∀ (L : List (List UInt8 × Nat)) (a : Nat), LV nm a L ++ [(segT nm (a + L.length), q)] = LV nm a (L ++ [q])
  | [], _ => rfl
  | r :: L, a => by
    rw [LV, List.cons_append, show a + (r :: L).length = a + 1 + L.length by simp; omega, snoc_LV nm q L, List.cons_append, LV]

theorem del_LV (nm : List UInt8) (q : List UInt8 × Nat) (L : List (List UInt8 × Nat)) (a : Nat) : delV (segT nm a) (LV nm a (q :: L)) = LV nm (a + 1) L := by
  unfold delV
  rw [LV, List.filter_cons_of_neg (by simp), List.filter_eq_self.2]
  intro g hg
  have := LV_off nm L (show a < a + 1 by omega) g hg
  simp; exact fun x => this x.symm

theorem tot_LV (nm : List UInt8) : ∀ (L : List (List UInt8 × Nat)) (a : Nat), tot (LV nm a L) = (L.map fun q => q.1.length).sum
  | [], _ => rfl
  | q :: L, a => by rw [LV, tot_cons, tot_LV nm L]; rfl

def cutL (picks : List Int) : Nat → List (List UInt8 × Nat) → List (List UInt8 × Nat)
  | _, [] => []
  | i, q :: L => (q.1.take (keptD picks i q.1.length q.2), keptD picks i q.1.length q.2) :: cutL picks (i + 1) L

theorem modify_mid {α : Type} (g : α → α) (q : α) (L : List α) : ∀ P : List α, (P ++ q :: L).modify P.length g = P ++ g q :: L
  | [] => by simp
  | r :: P => by simp [modify_mid g q L P]

theorem crash_LV (nm : List UInt8) (picks : List Int) : ∀ (L P : List (List UInt8 × Nat)) (a : Nat), crashV picks P.length ((List.range' (a + P.length) L.length).map (segB nm)) (LV nm a (P ++ L)) = LV nm a (P ++ cutL picks P.length L)
  | [], P, a => rfl
  | q :: L, P, a => by
    have h1 : (⟨(segB nm (a + P.length)).toArray⟩ : ByteArray) = segT nm (a + P.length) := rfl
    rw [List.length_cons, List.range'_succ, List.map_cons, crashV, h1, look_LV, List.getElem?_append_right (Nat.le_refl _), Nat.sub_self, List.getElem?_cons_zero]
    obtain ⟨b, s⟩ := q
    dsimp only
    rw [cut_LV, modify_mid]
    have := crash_LV nm picks L (P ++ [(b.take (keptD picks P.length b.length s), keptD picks P.length b.length s)]) a
    rw [List.length_append, List.length_singleton, List.append_assoc, List.append_assoc] at this
    exact this
end Go.Proofs.YtpiedpdffkfhpaaDoor
