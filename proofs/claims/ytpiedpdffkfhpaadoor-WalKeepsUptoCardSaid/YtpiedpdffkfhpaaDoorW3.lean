/- Merged out of D1, D2, D3, D4, D5, D6, D7, D8, D9, DA, DB, DC, DD, DE, DF: helpers. -/
import Derived.Test.YtpiedpdffkfhpaaDoorW2
import Derived.MapKept
import Derived.Shelf.Abstract
import Derived.Deep.CutRange
import Derived.Deep.DeepCutAuto
import Derived.Test.YtpiedpdffkfhpaaDoorLayP
import Derived.Sort.OwnSorted
import Derived.Shelf.Strings.Prefix
import Derived.Shelf.Sort.Plain
import Derived.Shelf.Slices.In.SortNone
import Derived.Sort.KeysCollected
/- A disk in memory: its files, what of memory it is, what an operation leaves alone. -/
namespace Go.Proofs.YtpiedpdffkfhpaaDoor
open Go.RowKit Go.Gl Go.Wal
open Go.MapKept (bytes_beq run_checkKey run_findKey IsKey)

theorem findNow_str (k : ByteArray) : ∀ (l : List (Ent ByteArray)) (i : Nat), Instr.findNow .string (.string k) (l.map (Ent.raw Value.string)) i = some (findFrom k l i)
  | [], _ => rfl
  | e :: es, i => by
    simp only [List.map_cons, Instr.findNow, Ent.raw, Instr.sameNow, findFrom]
    by_cases h : k = e.key
    · have : (k == e.key) = true := (bytes_beq _ _).2 h
      rw [this, if_pos h]
    · have : (k == e.key) = false := by
        cases hb : (k == e.key) with
        | false => rfl
        | true => exact absurd ((bytes_beq _ _).1 hb) h
      simp only [this, if_neg h]
      exact findNow_str k es (i + 1)

theorem keyOkS : KeyOk (κ := ByteArray) Tryd.prog 9 Value.string where
  check := fun b k w => run_checkKey Tryd.underlying9 (by simp [IsKey]) b 9999
  same := fun k => by simp [Instr.sameBits, bytes_beq]
  find := fun k l w => run_findKey Tryd.underlying9 (findNow_str k l 0)

theorem zeroFile (w : World) : (zeroValue 64).run Tryd.prog w = .ok (.pointer none) w := by kernel_rfl

/-- A file of a disk. -/
structure Fe where
  name : ByteArray
  born : Nat
  fb : Nat
  bv : Value
  b : List UInt8
  synced : Nat

def Fe.ent (f : Fe) : Ent ByteArray := ⟨f.name, .pointer (some ⟨f.fb, 0, none⟩), f.born⟩

structure FileAt (B : Nat) (w : World) (f : Fe) : Prop where
  cell : w.heap[f.fb]? = some (.cells #[f.bv, .int .i64 f.synced] 67 (0, 0))
  row : OwnB B w f.bv f.b
  base : B ≤ f.fb
  sync : f.synced ≤ f.b.length

structure DiskAt (B : Nat) (w : World) (p r : Nat) (size used born : Int) (fs : List Fe) : Prop where
  self : w.heap[p]? = some (.cells #[.int .i64 size, .int .i64 used, .int .i64 born, .map (some r)] 52 (0, 0))
  map : ∃ clock, MapAt w r Value.string (fs.map Fe.ent) clock ∧ ∀ f ∈ fs, f.born < clock
  names : (fs.map Fe.name).Nodup
  borns : (fs.map Fe.born).Nodup
  fbs : (fs.map Fe.fb).Nodup
  rows : ∀ f ∈ fs, ∀ g ∈ fs, ∀ b, f.bv.ownBlock = some b → g.bv.ownBlock = some b → f.name = g.name
  files : ∀ f ∈ fs, FileAt B w f
  base : B ≤ p ∧ B ≤ r ∧ B ≤ w.heap.size

/-- The blocks of a disk. -/
def Foot (p r : Nat) (fs : List Fe) (b : Nat) : Prop := b = p ∨ b = r ∨ ∃ f ∈ fs, b = f.fb ∨ f.bv.ownBlock = some b

/-- What an operation on a disk leaves alone: all but the disk's blocks; new blocks may have come to it. -/
structure Sep (F : Nat → Prop) (w w' : World) (F' : Nat → Prop) : Prop where
  os : w'.os = w.os
  tape : w'.tape = w.tape
  output : w'.output = w.output
  size : w.heap.size ≤ w'.heap.size
  out : ∀ b, b < w.heap.size → ¬ F b → w'.heap[b]? = w.heap[b]?
  foot : ∀ b, F' b → F b ∨ w.heap.size ≤ b

theorem Sep.refl (F : Nat → Prop) (w : World) : Sep F w w F := ⟨rfl, rfl, rfl, Nat.le_refl _, fun _ _ _ => rfl, fun _ h => .inl h⟩
theorem Sep.trans {F F' F'' : Nat → Prop} {w w' w'' : World} (h : Sep F w w' F') (k : Sep F' w' w'' F'') : Sep F w w'' F'' :=
  ⟨k.os.trans h.os, k.tape.trans h.tape, k.output.trans h.output, Nat.le_trans h.size k.size, fun b hb hn => by
    have hn' : ¬ F' b := fun hf => by
      rcases h.foot b hf with h1 | h1
      · exact hn h1
      · omega
    rw [k.out b (Nat.lt_of_lt_of_le hb h.size) hn', h.out b hb hn], fun b hb => by
    rcases k.foot b hb with h1 | h1
    · exact h.foot b h1
    · exact .inr (Nat.le_trans h.size h1)⟩
theorem Sep.ofGrow {F : Nat → Prop} {w w' : World} (h : Grow w w') : Sep F w w' F :=
  ⟨h.os, h.tape, h.output, h.size, fun b hb _ => h.block b hb, fun _ h => .inl h⟩
theorem Sep.free {F F' : Nat → Prop} {w w' : World} (h : Sep F w w' F') {b : Nat} (hb : b < w.heap.size) (hn : ¬ F b) : w'.heap[b]? = w.heap[b]? ∧ b < w'.heap.size ∧ ¬ F' b :=
  ⟨h.out b hb hn, Nat.lt_of_lt_of_le hb h.size, fun hf => by
    rcases h.foot b hf with h1 | h1
    · exact hn h1
    · omega⟩
theorem Sep.below {F F' : Nat → Prop} {w w' : World} {B : Nat} (h : Sep F w w' F') (hB : ∀ b, F b → B ≤ b) (hs : B ≤ w.heap.size) : Below B w w' :=
  ⟨h.os, h.tape, h.output, h.size, fun b hb => h.out b (by omega) (fun hf => by have := hB b hf; omega)⟩

section
variable {B : Nat} {w w' : World} {p r : Nat} {size used born : Int} {fs : List Fe}

theorem DiskAt.foot_lt (h : DiskAt B w p r size used born fs) {b : Nat} (hb : Foot p r fs b) : B ≤ b ∧ b < w.heap.size := by
  obtain ⟨c, hm, _⟩ := h.map
  rcases hb with rfl | rfl | ⟨f, hf, rfl | hr⟩
  · exact ⟨h.base.1, lt_of_getElem? h.self⟩
  · exact ⟨h.base.2.1, lt_of_getElem? hm⟩
  · exact ⟨(h.files f hf).base, lt_of_getElem? (h.files f hf).cell⟩
  · exact (h.files f hf).row.lt hr

/-- Blocks of another kind are no blocks of a disk. -/
theorem DiskAt.apart (h : DiskAt B w p r size used born fs) {b : Nat} {arr : Array Value} {t : TypeId} {f : Nat × Nat} (hb : w.heap[b]? = some (.cells arr t f)) (h1 : t ≠ 52) (h2 : t ≠ 67) (h3 : t ≠ 5) : ¬ Foot p r fs b := by
  obtain ⟨c, hm, _⟩ := h.map
  rintro (rfl | rfl | ⟨g, hg, rfl | hr⟩)
  · rw [h.self] at hb; cases hb; exact h1 rfl
  · rw [hm] at hb; cases hb
  · rw [(h.files g hg).cell] at hb; cases hb; exact h2 rfl
  · exact (h.files g hg).row.apart hb h3 hr

theorem DiskAt.grow (h : DiskAt B w p r size used born fs) (hg : Grow w w') : DiskAt B w' p r size used born fs := by
  obtain ⟨c, hm, hc⟩ := h.map
  exact ⟨hg.heap h.self, ⟨c, hg.heap hm, hc⟩, h.names, h.borns, h.fbs, h.rows, fun f hf => ⟨hg.heap (h.files f hf).cell, (h.files f hf).row.grow hg, (h.files f hf).base, (h.files f hf).sync⟩, h.base.1, h.base.2.1, Nat.le_trans h.base.2.2 hg.size⟩

/-- The file of a name. -/
def fileOf (n : ByteArray) (fs : List Fe) : Option Fe := fs.find? (fun f => decide (n = f.name))

def fileVal (n : ByteArray) (fs : List Fe) : Value := match fileOf n fs with | none => .pointer none | some f => .pointer (some ⟨f.fb, 0, none⟩)

theorem fileOf_some {n : ByteArray} {f : Fe} (h : fileOf n fs = some f) : f ∈ fs ∧ f.name = n := by
  have := List.find?_some h
  exact ⟨List.mem_of_find?_eq_some h, by simpa using (by simpa using this : n = f.name).symm⟩
theorem fileOf_none {n : ByteArray} (h : fileOf n fs = none) : ∀ f ∈ fs, n ≠ f.name := fun f hf => by
  have := List.find?_eq_none.1 h f hf
  simpa using this

theorem valAt_file (n : ByteArray) (fs : List Fe) : valAt n (.pointer none) (fs.map Fe.ent) = fileVal n fs := by
  unfold valAt fileVal fileOf
  induction fs with
  | nil => rfl
  | cons f fs ih =>
    simp only [List.map_cons, List.find?_cons]
    by_cases h : n = f.name
    · simp [Fe.ent, h]
    · have h' : n ≠ f.ent.key := h
      simp only [h, h', decide_false]
      exact ih

theorem DiskAt.lookup (h : DiskAt B w p r size used born fs) (n : ByteArray) : (Instr.lookup 50 (.map (some r)) (.string n) false).run Tryd.prog w = .ok (fileVal n fs) w := by
  obtain ⟨c, hm, _⟩ := h.map
  rw [run_lookup keyOkS Tryd.underlying50 (zeroFile w) hm n, valAt_file]

theorem DiskAt.cells (h : DiskAt B w p r size used born fs) : w.cell? ⟨p, 0, none⟩ = some (.int .i64 size) ∧ w.cell? ⟨p, 1, none⟩ = some (.int .i64 used) ∧ w.cell? ⟨p, 2, none⟩ = some (.int .i64 born) ∧ w.cell? ⟨p, 3, none⟩ = some (.map (some r)) := by
  simp [World.cell?, h.self]
end
end Go.Proofs.YtpiedpdffkfhpaaDoor

/- disk.New, disk.Name at names, disk.Read. -/
namespace Go.Proofs.YtpiedpdffkfhpaaDoor
open Go.RowKit Go.Gl Go.Wal

theorem new_ok (size : Int) (w : World) (h1 : 1 ≤ size) (h2 : size ≤ 1073741824) :
    Calls Tryd.prog 7 #[.int .i64 size] w fun e w' => e = .returned (.tuple #[.pointer (some ⟨w.heap.size + 1, 0, none⟩), .int .i64 0]) ∧ DiskAt w.heap.size w' (w.heap.size + 1) w.heap.size size 0 0 [] ∧ Grow w w' := by
  have hmm := @run_makeMap Tryd.prog
  go_enter Tryd.func7, Tryd.ntmps7
  go_wp2
  go_ret2
  refine ⟨rfl, ⟨?_, ⟨0, ?_, (fun f hf => by cases hf)⟩, List.nodup_nil, List.nodup_nil, List.nodup_nil, (fun f hf => by cases hf), (fun f hf => by cases hf), by omega, Nat.le_refl _, by simp; omega⟩, by (repeat (first | exact Below.refl _ _ | assumption | refine Below.drew ?_ | refine bDrewN ?_ | refine Below.setCell ?_ (by first | omega | (simp <;> omega)) _ | refine Below.alloc ?_ (by first | omega | (simp <;> omega)) _))⟩
  · have := heap_alloc_new (w.alloc (.map #[] 0)) (.cells #[.int .i64 size, .int .i64 0, .int .i64 0, .map (some w.heap.size)] 52)
    simpa using this
  · exact (heap_alloc_old _ _ (by simp)).trans (heap_alloc_new _ _)

/-- A byte of a name. -/
def okc (c : UInt8) : Bool := (decide (97 ≤ c.toNat) && decide (c.toNat ≤ 122)) || (decide (48 ≤ c.toNat) && decide (c.toNat ≤ 57)) || decide (c.toNat = 45) || decide (c.toNat = 46)

def NameOk (s : ByteArray) : Prop := 1 ≤ s.size ∧ s.size ≤ 64 ∧ ∀ (i : Nat) (h : i < s.size), okc s[i] = true

def NmInv (w : World) (s : ByteArray) (iv : Value) (wr : World) : Prop := ∃ i : Nat, iv = .int .i64 i ∧ i ≤ s.size ∧ wr = w

set_option maxRecDepth 100000 in
set_option maxHeartbeats 4000000 in
theorem name_ok {s : ByteArray} (h : NameOk s) (w : World) : Calls Tryd.prog 35 #[.string s] w fun e w' => e = .returned (.bool true) ∧ w' = w := by
  obtain ⟨hs1, hs2, hall⟩ := h
  have Hall := Lib.hid hall
  have e1 : decide ((s.size : Int) < 1) = false := by simp; omega
  have e2 : decide ((64 : Int) < (s.size : Int)) = false := by simp; omega
  clear hall
  go_enter Tryd.func35, Tryd.ntmps35
  go_wp2_with fail
  go_loopw [15] (fun iv wr => NmInv w s iv wr) (fun iv _ => s.size - (intOf iv).toNat)
  case atStart => exact ⟨0, rfl, Nat.zero_le _, rfl⟩
  case round =>
    obtain ⟨i, rfl, hi, hwr⟩ := hrel
    have hwr' := hwr.symm
    subst hwr'
    clear hwr
    by_cases hlt : i < s.size
    · have hi1 : (i : Int) < (s.size : Int) := by omega
      have hi0 : (0 : Int) ≤ (i : Int) := by omega
      have hwi : IntKind.i64.wrap ((i : Int) + 1) = (i : Int) + 1 := IntWalk.i64_in _ (by omega)
      have hc := Hall.out i hlt
      have hok : (97 ≤ s[i].toNat ∧ s[i].toNat ≤ 122) ∨ (48 ≤ s[i].toNat ∧ s[i].toNat ≤ 57) ∨ s[i].toNat = 45 ∨ s[i].toNat = 46 := by
        simp only [okc, Bool.or_eq_true, Bool.and_eq_true, decide_eq_true_eq] at hc
        rcases hc with ((h | h) | h) | h
        · exact .inl h
        · exact .inr (.inl h)
        · exact .inr (.inr (.inl h))
        · exact .inr (.inr (.inr h))
      clear hc
      go_upto_region 7 with fail
      generalize s[i].toNat = k at *
      rcases hok with h | h | h | h
      · have Hk := Lib.hid h
        have f1 : decide ((97 : Int) ≤ (k : Int)) = true := by simp; omega
        have f2 : decide ((k : Int) ≤ 122) = true := by simp; omega
        clear h
        go_wp2
        go_roundw
        case rel => exact ⟨i + 1, by simp, hlt, rfl⟩
        case measure => simp [intOf]; omega
      · have Hk := Lib.hid h
        have f1 : decide ((97 : Int) ≤ (k : Int)) = false := by simp; omega
        have f3 : decide ((48 : Int) ≤ (k : Int)) = true := by simp; omega
        have f4 : decide ((k : Int) ≤ 57) = true := by simp; omega
        clear h
        go_wp2
        go_roundw
        case rel => exact ⟨i + 1, by simp, hlt, rfl⟩
        case measure => simp [intOf]; omega
      · have Hk := Lib.hid h
        have f1 : decide ((97 : Int) ≤ (k : Int)) = false := by simp; omega
        have f3 : decide ((48 : Int) ≤ (k : Int)) = false := by simp; omega
        have f5 : ((k : Int) == 45) = true := by simp; omega
        clear h
        go_wp2
        go_roundw
        case rel => exact ⟨i + 1, by simp, hlt, rfl⟩
        case measure => simp [intOf]; omega
      · have Hk := Lib.hid h
        have f1 : decide ((97 : Int) ≤ (k : Int)) = false := by simp; omega
        have f3 : decide ((48 : Int) ≤ (k : Int)) = false := by simp; omega
        have f5 : ((k : Int) == 45) = false := by simp; omega
        have f6 : ((k : Int) == 46) = true := by simp; omega
        clear h
        go_wp2
        go_roundw
        case rel => exact ⟨i + 1, by simp, hlt, rfl⟩
        case measure => simp [intOf]; omega
    · obtain rfl : i = s.size := by omega
      go_wp2
      go_ret
      exact ⟨rfl, rfl⟩

set_option maxRecDepth 100000 in
theorem read_any {B : Nat} {w : World} {p r : Nat} {size used born : Int} {fs : List Fe} (h : DiskAt B w p r size used born fs) (n : ByteArray) (hb : ∀ f ∈ fs, f.b.length ≤ 140737488355328) :
    Calls Tryd.prog 10 #[.pointer (some ⟨p, 0, none⟩), .string n] w fun e w' =>
      (match fileOf n fs with
       | none => e = .returned (.tuple #[.slice none 0 0, .int .i64 4])
       | some f => ∃ v, e = .returned (.tuple #[v, .int .i64 0]) ∧ OwnB w.heap.size w' v f.b) ∧ Grow w w' := by
  have hlk := h.lookup n
  obtain ⟨c0, c1, c2, c3⟩ := h.cells
  have lp := lt_of_getElem? h.self
  cases hf : fileOf n fs with
  | none =>
    simp only [fileVal, hf] at hlk
    have Hf := Lib.hid hf
    clear hf
    go_enter Tryd.func10, Tryd.ntmps10
    go_wp2
    go_ret2
    exact ⟨rfl, Grow.refl _⟩
  | some f =>
    simp only [fileVal, hf] at hlk
    obtain ⟨hm, hn⟩ := fileOf_some hf
    have hfa := h.files f hm
    have hcl := clone_any (ownB_bv hfa.row) (hb f hm)
    obtain ⟨ba, bc, hbv⟩ := hfa.row.slice
    have q0 : w.cell? ⟨f.fb, 0, none⟩ = some (.slice ba (bcells f.b).length bc) := by simp [World.cell?, hfa.cell, hbv]
    have lf := lt_of_getElem? hfa.cell
    rw [hbv] at hcl
    have Hcl := Lib.hid hcl
    clear hcl hf hfa hbv
    go_enter Tryd.func10, Tryd.ntmps10
    go_wp2_with fail
    (with_reducible refine Hcl.out.mono ?_)
    rintro e w1 ⟨v1, rfl, ho1, hg1⟩
    go_wp2
    go_ret2
    exact ⟨⟨_, rfl, ho1⟩, hg1⟩
end Go.Proofs.YtpiedpdffkfhpaaDoor

/- What turns a disk in memory: a new file, bytes behind a file's, how much is used, what is synced. -/
namespace Go.Proofs.YtpiedpdffkfhpaaDoor
open Go.RowKit Go.Gl Go.Wal

/-- A disk's files as data. -/
abbrev Vw := List (ByteArray × List UInt8 × Nat)
def vw (fs : List Fe) : Vw := fs.map fun f => (f.name, f.b, f.synced)

section
variable {B : Nat} {w w' : World} {p r : Nat} {size used born : Int} {fs : List Fe}

theorem name_inj (h : (fs.map Fe.name).Nodup) {a b : Fe} (ha : a ∈ fs) (hb : b ∈ fs) (hk : a.name = b.name) : a = b := by
  induction fs with
  | nil => cases ha
  | cons x fs ih =>
    simp only [List.map_cons, List.nodup_cons, List.mem_map, not_exists, not_and] at h
    rcases List.mem_cons.1 ha with rfl | ha' <;> rcases List.mem_cons.1 hb with rfl | hb'
    · rfl
    · exact absurd hk.symm (h.1 b hb')
    · exact absurd hk (h.1 a ha')
    · exact ih h.2 ha' hb'

theorem fb_inj (h : (fs.map Fe.fb).Nodup) {a b : Fe} (ha : a ∈ fs) (hb : b ∈ fs) (hk : a.fb = b.fb) : a = b := by
  induction fs with
  | nil => cases ha
  | cons x fs ih =>
    simp only [List.map_cons, List.nodup_cons, List.mem_map, not_exists, not_and] at h
    rcases List.mem_cons.1 ha with rfl | ha' <;> rcases List.mem_cons.1 hb with rfl | hb'
    · rfl
    · exact absurd hk.symm (h.1 b hb')
    · exact absurd hk (h.1 a ha')
    · exact ih h.2 ha' hb'

theorem DiskAt.p_ne_r (h : DiskAt B w p r size used born fs) : p ≠ r := by
  obtain ⟨c, hm, _⟩ := h.map
  rintro rfl
  rw [MapAt, h.self] at hm; cases hm
theorem DiskAt.fb_ne (h : DiskAt B w p r size used born fs) {f : Fe} (hf : f ∈ fs) : f.fb ≠ p ∧ f.fb ≠ r := by
  obtain ⟨c, hm, _⟩ := h.map
  have hc := (h.files f hf).cell
  constructor
  · intro e; rw [e, h.self] at hc; simp at hc
  · intro e; rw [e, hm] at hc; cases hc
theorem DiskAt.row_ne (h : DiskAt B w p r size used born fs) {f : Fe} (hf : f ∈ fs) {b : Nat} (hb : f.bv.ownBlock = some b) : b ≠ p ∧ b ≠ r ∧ ∀ g ∈ fs, b ≠ g.fb := by
  obtain ⟨c, hm, _⟩ := h.map
  obtain ⟨cur, hc⟩ := (h.files f hf).row.block hb
  refine ⟨fun e => ?_, fun e => ?_, fun g hg e => ?_⟩
  · rw [e, h.self] at hc; cases hc
  · rw [e, hm] at hc; cases hc
  · rw [e, (h.files g hg).cell] at hc; cases hc

/-- How much is used is laid. -/
theorem DiskAt.setUsed (h : DiskAt B w p r size used born fs) (used' : Int) : DiskAt B (w.setCell ⟨p, 1, none⟩ (.int .i64 used')) p r size used' born fs ∧ Sep (Foot p r fs) w (w.setCell ⟨p, 1, none⟩ (.int .i64 used')) (Foot p r fs) := by
  obtain ⟨c, hm, hc⟩ := h.map
  have ho : ∀ b, b ≠ p → (w.setCell ⟨p, 1, none⟩ (.int .i64 used')).heap[b]? = w.heap[b]? := fun b hb => Below.heap_setCell _ _ _ _ hb
  refine ⟨⟨setCell_heap h.self 1 _, ⟨c, (ho r (Ne.symm h.p_ne_r)).trans hm, hc⟩, h.names, h.borns, h.fbs, h.rows, fun f hf => ?_, h.base.1, h.base.2.1, by simpa using h.base.2.2⟩, ⟨rfl, rfl, rfl, by simp, fun b _ hn => ho b (fun e => hn (.inl e)), fun b hb => .inl hb⟩⟩
  have hfa := h.files f hf
  exact ⟨(ho _ (h.fb_ne hf).1).trans hfa.cell, hfa.row.keep (fun b hb => ho b (h.row_ne hf hb).1), hfa.base, hfa.sync⟩

/-- A new file, empty. -/
theorem DiskAt.newFile (h : DiskAt B w p r size used born fs) {n : ByteArray} (hn : fileOf n fs = none) {c : Nat} (hm : MapAt w r Value.string (fs.map Fe.ent) c) (hc : ∀ f ∈ fs, f.born < c) :
    DiskAt B (setO (w.alloc (.cells #[.slice none 0 0, .int .i64 0] 67)) r (.map (((fs.map Fe.ent) ++ [(⟨n, .pointer (some ⟨w.heap.size, 0, none⟩), c⟩ : Ent ByteArray)]).map (Ent.raw Value.string)).toArray (c + 1))) p r size used born (fs ++ [⟨n, c, w.heap.size, .slice none 0 0, [], 0⟩]) ∧
    Sep (Foot p r fs) w (setO (w.alloc (.cells #[.slice none 0 0, .int .i64 0] 67)) r (.map (((fs.map Fe.ent) ++ [(⟨n, .pointer (some ⟨w.heap.size, 0, none⟩), c⟩ : Ent ByteArray)]).map (Ent.raw Value.string)).toArray (c + 1))) (Foot p r (fs ++ [⟨n, c, w.heap.size, .slice none 0 0, [], 0⟩])) := by
  have hrl := lt_of_getElem? hm
  have hne := fileOf_none hn
  generalize hw2 : setO (w.alloc (.cells #[.slice none 0 0, .int .i64 0] 67)) r (.map (((fs.map Fe.ent) ++ [(⟨n, .pointer (some ⟨w.heap.size, 0, none⟩), c⟩ : Ent ByteArray)]).map (Ent.raw Value.string)).toArray (c + 1)) = w2
  have ho : ∀ b, b < w.heap.size → b ≠ r → w2.heap[b]? = w.heap[b]? := fun b hb hbr => by
    rw [← hw2, setO_other hbr]; exact heap_alloc_old _ _ hb
  have hr2 : MapAt w2 r Value.string ((fs ++ [(⟨n, c, w.heap.size, .slice none 0 0, [], 0⟩ : Fe)]).map Fe.ent) (c + 1) := by
    rw [← hw2]
    unfold MapAt
    rw [setO_same (by simp; omega)]
    simp [Fe.ent]
  have hnew : w2.heap[w.heap.size]? = some (.cells #[.slice none 0 0, .int .i64 0] 67 (0, 0)) := by
    rw [← hw2, setO_other (by omega)]; exact heap_alloc_new _ _
  have hsz : w2.heap.size = w.heap.size + 1 := by rw [← hw2]; simp [setO]
  refine ⟨⟨(ho p (lt_of_getElem? h.self) h.p_ne_r).trans h.self, ⟨c + 1, hr2, fun f hf => ?_⟩, ?_, ?_, ?_, ?_, ?_, h.base.1, h.base.2.1, by have := h.base.2.2; omega⟩, ⟨by rw [← hw2]; rfl, by rw [← hw2]; rfl, by rw [← hw2]; rfl, by omega, fun b hb hnf => ho b hb (fun e => hnf (.inr (.inl e))), ?_⟩⟩
  · rcases List.mem_append.1 hf with h1 | h1
    · have := hc f h1; omega
    · obtain rfl := List.mem_singleton.1 h1; simp
  · rw [List.map_append]
    refine List.nodup_append.2 ⟨h.names, by simp, fun a ha b hb => ?_⟩
    simp only [List.map_cons, List.map_nil, List.mem_singleton] at hb
    subst hb
    obtain ⟨f, hf, rfl⟩ := List.mem_map.1 ha
    exact Ne.symm (hne f hf)
  · rw [List.map_append]
    refine List.nodup_append.2 ⟨h.borns, by simp, fun a ha b hb => ?_⟩
    simp only [List.map_cons, List.map_nil, List.mem_singleton] at hb
    subst hb
    obtain ⟨f, hf, rfl⟩ := List.mem_map.1 ha
    have := hc f hf
    omega
  · rw [List.map_append]
    refine List.nodup_append.2 ⟨h.fbs, by simp, fun a ha b hb => ?_⟩
    simp only [List.map_cons, List.map_nil, List.mem_singleton] at hb
    subst hb
    obtain ⟨f, hf, rfl⟩ := List.mem_map.1 ha
    have := lt_of_getElem? (h.files f hf).cell
    omega
  · intro f hf g hg b hb1 hb2
    rcases List.mem_append.1 hf with h1 | h1
    · rcases List.mem_append.1 hg with h2 | h2
      · exact h.rows f h1 g h2 b hb1 hb2
      · obtain rfl := List.mem_singleton.1 h2; cases hb2
    · obtain rfl := List.mem_singleton.1 h1; cases hb1
  · intro f hf
    rcases List.mem_append.1 hf with h1 | h1
    · have hfa := h.files f h1
      exact ⟨(ho _ (lt_of_getElem? hfa.cell) (h.fb_ne h1).2).trans hfa.cell, hfa.row.keep (fun b hb => ho b (hfa.row.lt hb).2 (h.row_ne h1 hb).2.1), hfa.base, hfa.sync⟩
    · obtain rfl := List.mem_singleton.1 h1
      exact ⟨hnew, row1_nil _ _ _, h.base.2.2, Nat.le_refl _⟩
  · rintro b (rfl | rfl | ⟨f, hf, hb⟩)
    · exact .inl (.inl rfl)
    · exact .inl (.inr (.inl rfl))
    · rcases List.mem_append.1 hf with h1 | h1
      · exact .inl (.inr (.inr ⟨f, h1, hb⟩))
      · obtain rfl := List.mem_singleton.1 h1
        rcases hb with rfl | hb
        · exact .inr (Nat.le_refl _)
        · cases hb

/-- A file's slice and its bytes are laid. -/
def putF (n : ByteArray) (v : Value) (x : List UInt8) (s : Nat) (fs : List Fe) : List Fe := fs.map fun g => if g.name = n then { g with bv := v, b := x, synced := s } else g

theorem putF_mem {n : ByteArray} {v : Value} {x : List UInt8} {s : Nat} {g : Fe} (h : g ∈ putF n v x s fs) : ∃ g0 ∈ fs, g.name = g0.name ∧ g.fb = g0.fb ∧ g.born = g0.born ∧ ((g0.name = n ∧ g.bv = v ∧ g.b = x ∧ g.synced = s) ∨ (g0.name ≠ n ∧ g = g0)) := by
  obtain ⟨g0, h0, rfl⟩ := List.mem_map.1 h
  refine ⟨g0, h0, ?_⟩
  by_cases hn : g0.name = n
  · rw [if_pos hn]; exact ⟨rfl, rfl, rfl, .inl ⟨hn, rfl, rfl, rfl⟩⟩
  · rw [if_neg hn]; exact ⟨rfl, rfl, rfl, .inr ⟨hn, rfl⟩⟩
theorem putF_ent (n : ByteArray) (v : Value) (x : List UInt8) (s : Nat) (fs : List Fe) : (putF n v x s fs).map Fe.ent = fs.map Fe.ent := by
  unfold putF
  rw [List.map_map]
  refine List.map_congr_left fun g _ => ?_
  simp only [Function.comp]
  split <;> rfl
theorem putF_names (n : ByteArray) (v : Value) (x : List UInt8) (s : Nat) (fs : List Fe) : (putF n v x s fs).map Fe.name = fs.map Fe.name := by
  unfold putF
  rw [List.map_map]
  refine List.map_congr_left fun g _ => ?_
  simp only [Function.comp]
  split <;> rfl
theorem putF_borns (n : ByteArray) (v : Value) (x : List UInt8) (s : Nat) (fs : List Fe) : (putF n v x s fs).map Fe.born = fs.map Fe.born := by
  unfold putF
  rw [List.map_map]
  refine List.map_congr_left fun g _ => ?_
  simp only [Function.comp]
  split <;> rfl
theorem putF_fbs (n : ByteArray) (v : Value) (x : List UInt8) (s : Nat) (fs : List Fe) : (putF n v x s fs).map Fe.fb = fs.map Fe.fb := by
  unfold putF
  rw [List.map_map]
  refine List.map_congr_left fun g _ => ?_
  simp only [Function.comp]
  split <;> rfl

/-- A file gets a slice v (a row of its own, that may be new), as bytes x, with s synced: w1 has the row, w2 the cells of the file too. -/
theorem DiskAt.put (h : DiskAt B w p r size used born fs) {f : Fe} (hf : f ∈ fs) {w1 w2 : World} {v : Value} {x : List UInt8} {s : Nat} (hrow : OwnB B w1 v x) (hgr : w.grownBy w1 f.bv.ownBlock) (hown : ∀ b, v.ownBlock = some b → f.bv.ownBlock = some b ∨ w.heap.size ≤ b)
    (h2 : w2.heap[f.fb]? = some (.cells #[v, .int .i64 s] 67 (0, 0))) (h12 : w1.grownBy w2 (some f.fb)) (hs : s ≤ x.length) :
    DiskAt B w2 p r size used born (putF f.name v x s fs) ∧ Sep (Foot p r fs) w w2 (Foot p r (putF f.name v x s fs)) := by
  obtain ⟨c, hm, hc⟩ := h.map
  have ho : ∀ b, b < w.heap.size → f.bv.ownBlock ≠ some b → b ≠ f.fb → w2.heap[b]? = w.heap[b]? := fun b hb h1 h3 => by
    rw [h12.block b (Nat.lt_of_lt_of_le hb hgr.size) (fun e => h3 (Option.some.inj e)), hgr.block b hb (fun e => h1 e.symm)]
  have hpne : f.bv.ownBlock ≠ some p := fun e => (h.row_ne hf e).1 rfl
  have hrne : f.bv.ownBlock ≠ some r := fun e => (h.row_ne hf e).2.1 rfl
  have hvb : ∀ b, v.ownBlock = some b → b ≠ f.fb := fun b hb e => by
    rcases hown b hb with h1 | h1
    · exact (h.row_ne hf h1).2.2 f hf e
    · have := lt_of_getElem? (h.files f hf).cell; omega
  have hsz : w.heap.size ≤ w2.heap.size := Nat.le_trans hgr.size h12.size
  refine ⟨⟨(ho p (lt_of_getElem? h.self) hpne (Ne.symm (h.fb_ne hf).1)).trans h.self, ⟨c, by rw [putF_ent]; exact (ho r (lt_of_getElem? hm) hrne (Ne.symm (h.fb_ne hf).2)).trans hm, fun g hg => ?_⟩, by rw [putF_names]; exact h.names, by rw [putF_borns]; exact h.borns, by rw [putF_fbs]; exact h.fbs, ?_, ?_, h.base.1, h.base.2.1, Nat.le_trans h.base.2.2 hsz⟩,
    ⟨h12.os.trans hgr.os, h12.tape.trans hgr.tape, h12.output.trans hgr.output, hsz, fun b hb hn => ho b hb (fun e => hn (.inr (.inr ⟨f, hf, .inr e⟩))) (fun e => hn (.inr (.inr ⟨f, hf, .inl e⟩))), ?_⟩⟩
  · obtain ⟨g0, h0, _, _, hb, _⟩ := putF_mem hg
    rw [hb]; exact hc g0 h0
  · intro g hg g' hg' b hb1 hb2
    obtain ⟨g0, h0, hn0, hfb0, _, hc0⟩ := putF_mem hg
    obtain ⟨g1, h1, hn1, hfb1, _, hc1⟩ := putF_mem hg'
    rw [hn0, hn1]
    rcases hc0 with ⟨e0, hv0, _, _⟩ | ⟨e0, rfl⟩ <;> rcases hc1 with ⟨e1, hv1, _, _⟩ | ⟨e1, rfl⟩
    · rw [e0, e1]
    · exfalso
      rw [hv0] at hb1
      rcases hown b hb1 with h3 | h3
      · exact e1 (h.rows g' h1 f hf b hb2 h3)
      · have := ((h.files g' h1).row.lt hb2).2; omega
    · exfalso
      rw [hv1] at hb2
      rcases hown b hb2 with h3 | h3
      · exact e0 (h.rows g h0 f hf b hb1 h3)
      · have := ((h.files g h0).row.lt hb1).2; omega
    · exact h.rows g h0 g' h1 b hb1 hb2
  · intro g hg
    obtain ⟨g0, h0, hn0, hfb0, _, hc0⟩ := putF_mem hg
    rcases hc0 with ⟨e0, hv0, hb0, hs0⟩ | ⟨e0, rfl⟩
    · have hgf : g0 = f := name_inj h.names h0 hf e0
      subst hgf
      refine ⟨by rw [hfb0, hv0, hs0]; exact h2, ?_, by rw [hfb0]; exact (h.files g0 h0).base, by rw [hs0, hb0]; exact hs⟩
      rw [hv0, hb0]
      exact hrow.keep (fun b hb => h12.block b (hrow.lt hb).2 (fun e => hvb b hb (Option.some.inj e)))
    · have hfa := h.files g h0
      have hne : ∀ b, g.bv.ownBlock = some b → f.bv.ownBlock ≠ some b := fun b hb e => e0 (h.rows g h0 f hf b hb e)
      have hfbne : g.fb ≠ f.fb := fun e => e0 (by rw [fb_inj h.fbs h0 hf e])
      exact ⟨(ho _ (lt_of_getElem? hfa.cell) (fun e => (h.row_ne hf e).2.2 g h0 rfl) hfbne).trans hfa.cell, hfa.row.keep (fun b hb => ho b (hfa.row.lt hb).2 (hne b hb) ((h.row_ne h0 hb).2.2 f hf)), hfa.base, hfa.sync⟩
  · rintro b (rfl | rfl | ⟨g, hg, hb⟩)
    · exact .inl (.inl rfl)
    · exact .inl (.inr (.inl rfl))
    · obtain ⟨g0, h0, hn0, hfb0, _, hc0⟩ := putF_mem hg
      rcases hb with rfl | hb
      · exact .inl (.inr (.inr ⟨g0, h0, .inl hfb0⟩))
      · rcases hc0 with ⟨e0, hv0, _, _⟩ | ⟨e0, rfl⟩
        · rw [hv0] at hb
          rcases hown b hb with h3 | h3
          · exact .inl (.inr (.inr ⟨f, hf, .inr h3⟩))
          · exact .inr h3
        · exact .inl (.inr (.inr ⟨g, h0, .inr hb⟩))
end
end Go.Proofs.YtpiedpdffkfhpaaDoor

/- disk.Append of one part, of none. -/
namespace Go.Proofs.YtpiedpdffkfhpaaDoor
open Go.RowKit Go.Gl Go.Wal

theorem Bv.keep {w w' : World} {v : Value} {l : List UInt8} (h : Bv w v l) (hs : w.heap.size ≤ w'.heap.size) (hk : ∀ (b : Nat) (arr : Array Value) (t : TypeId) (f : Nat × Nat), w.heap[b]? = some (.cells arr t f) → w'.heap[b]? = w.heap[b]?) : Bv w' v l := by
  obtain ⟨a, c, hv, hl, hm, hn, h⟩ := h
  refine ⟨a, c, hv, hl, hm, hn, ?_⟩
  rcases h with h | ⟨b, o, ha, hb, hc⟩
  · exact .inl h
  · refine .inr ⟨b, o, ha, by omega, fun j k hj => ?_⟩
    have h1 := hc j k hj
    have : w'.heap[b]? = w.heap[b]? := by
      unfold World.cell? at h1
      split at h1
      · rename_i arr t f hbk
        exact hk b _ _ _ hbk
      · cases h1
    rw [← h1]
    simp only [World.cell?, this]

def appV (n : ByteArray) (x : List UInt8) (V : Vw) : Vw := if V.any (fun e => decide (e.1 = n)) = true then V.map (fun e => if e.1 = n then (e.1, e.2.1 ++ x, e.2.2) else e) else V ++ [(n, x, 0)]

theorem vw_put {fs : List Fe} (h : (fs.map Fe.name).Nodup) {f : Fe} (hf : f ∈ fs) (v : Value) (x : List UInt8) : vw (putF f.name v (f.b ++ x) f.synced fs) = appV f.name x (vw fs) := by
  unfold appV
  have hany : (vw fs).any (fun e => decide (e.1 = f.name)) = true := List.any_eq_true.2 ⟨_, List.mem_map.2 ⟨f, hf, rfl⟩, by simp⟩
  rw [if_pos hany]
  unfold vw putF
  rw [List.map_map, List.map_map]
  refine List.map_congr_left fun g hg => ?_
  simp only [Function.comp]
  by_cases hn : g.name = f.name
  · have := name_inj h hg hf hn
    subst this
    simp
  · simp [hn]

theorem vw_new {fs : List Fe} {n : ByteArray} (h : fileOf n fs = none) (c b : Nat) (v : Value) (x : List UInt8) : vw (fs ++ [(⟨n, c, b, v, x, 0⟩ : Fe)]) = appV n x (vw fs) := by
  unfold appV
  rw [if_neg]
  · simp [vw]
  · intro hc
    obtain ⟨e, he, h2⟩ := List.any_eq_true.1 hc
    obtain ⟨f, hf, rfl⟩ := List.mem_map.1 he
    exact fileOf_none h f hf (by simpa using h2 : f.name = n).symm

def AppPost (B : Nat) (w : World) (p r : Nat) (size used born : Int) (fs : List Fe) (n : ByteArray) (x : List UInt8) (e : Ending) (w' : World) : Prop :=
  e = .returned (.int .i64 0) ∧ ∃ fs', DiskAt B w' p r size (used + x.length) born fs' ∧ Sep (Foot p r fs) w w' (Foot p r fs') ∧ vw fs' = appV n x (vw fs)

set_option maxRecDepth 100000 in
set_option maxHeartbeats 4000000 in
theorem append1_some {B : Nat} {w : World} {p r : Nat} {size used born : Int} {fs : List Fe} (h : DiskAt B w p r size used born fs) {n : ByteArray} {f : Fe} (hfo : fileOf n fs = some f) (hn : NameOk n)
    {qb : Nat} {pv : Value} {x : List UInt8} (hq : w.heap[qb]? = some (.cells #[pv] 23 (0, 0))) (hx : Bv w pv x) (hu : 0 ≤ used) (hroom : used + x.length ≤ size) (hsz : size ≤ 1073741824) (hfl : f.b.length ≤ 1073741824) :
    Calls Tryd.prog 25 #[.pointer (some ⟨p, 0, none⟩), .string n, .slice (some ⟨qb, 0, none⟩) 1 1] w (AppPost B w p r size used born fs n x) := by
  obtain ⟨c0, c1, c2, c3⟩ := h.cells
  have lp := lt_of_getElem? h.self
  have p0 : w.cell? ⟨qb, 0, none⟩ = some pv := by simp [World.cell?, hq]
  have lq := lt_of_getElem? hq
  obtain ⟨xa, xc, rfl⟩ := hx.slice
  have hroom' : ¬ size < used + (x.length : Int) := by omega
  have hroom2 : decide (size < used + (x.length : Int)) = false := by simpa using hroom
  have hw1 : IntKind.i64.wrap (used + (x.length : Int)) = used + (x.length : Int) := IntWalk.i64_in _ (by omega)
  have H := Lib.hid h
  have Hx := Lib.hid hx
  have Hfo := Lib.hid hfo
  have Hq := Lib.hid hq
  have hcl := Grow.cells (w := w)
  clear h hx hfo hq
  go_enter Tryd.func25, Tryd.ntmps25
  go_wp2_with fail
  refine wp_loop_rounds 2 ?_
  rw [rounds_succ]
  go_wp2_with fail
  rw [rounds_succ]
  go_wp2_with ((with_reducible refine (name_ok hn _).mono ?_); rintro e w1 ⟨rfl, hw⟩; have hw' := hw.symm; subst hw'; clear hw)
  refine wp_region_pi (fun W => Below w.heap.size w W) [(0, false), (1, false), (2, false), (3, false), (4, false), (5, false), (6, false), (7, false), (8, false), (9, false), (10, false), (11, false)] (by kernel_rfl) (by kernel_rfl) (fun c a d v w h => by cases d <;> exact h) (Grow.drew _) ?_
  simp only [arrange, nth]
  repeat (first | (refine wpPi_quiet (v := ?_) (by rfl) (fun W hW => ?_) ?_; rotate_left; (obtain hW := hW; go_simp; with_reducible rfl); simp only [Act.put, List.setIfInBounds_toArray, List.set_cons_zero, List.set_cons_succ]) | (refine wpPi_off (by rfl) ?_; simp only [Act.put, List.setIfInBounds_toArray, List.set_cons_zero, List.set_cons_succ]))
  refine wpPi_nil ?_
  have hgd : Grow w w.drew := Grow.drew w
  have h1 := H.out.grow hgd
  have hx1 := Hx.out.grow hgd
  have Hq1 := Lib.hid (hgd.heap Hq.out)
  clear c0 c1 c2 c3 lp p0 lq hcl
  have hd : w.drew = w.drew := rfl
  generalize hw1d : w.drew = w1 at *
  clear hd
  have hlk := h1.lookup n
  obtain ⟨c0, c1, c2, c3⟩ := h1.cells
  have lp := lt_of_getElem? h1.self
  obtain ⟨hm, hnm⟩ := fileOf_some Hfo.out
  simp only [fileVal, Hfo.out] at hlk
  have hfa := h1.files f hm
  have p0 : w1.cell? ⟨qb, 0, none⟩ = some (.slice xa x.length xc) := by simp [World.cell?, Hq1.out]
  have lq := lt_of_getElem? Hq1.out
  obtain ⟨v', w2, r1, r2, r3, r4⟩ := append_bytes hfa.row hx1 h1.base.2.2 (by omega)
  obtain ⟨va', vc', rfl⟩ := r2.slice
  obtain ⟨ba, bc, hbv⟩ := hfa.row.slice
  have q0 : w1.cell? ⟨f.fb, 0, none⟩ = some (.slice ba (bcells f.b).length bc) := by simp [World.cell?, hfa.cell, hbv]
  have lf := lt_of_getElem? hfa.cell
  have hfne : f.bv.ownBlock ≠ some f.fb := fun e => (h1.row_ne hm e).2.2 f hm rfl
  have hcell2 : w2.heap[f.fb]? = some (.cells #[f.bv, .int .i64 f.synced] 67 (0, 0)) := by rw [r3.block _ lf (fun e => hfne e.symm)]; exact hfa.cell
  have hput := h1.put hm (w2 := w2.setCell ⟨f.fb, 0, none⟩ (.slice va' (bcells (f.b ++ x)).length vc')) (s := f.synced) r2 r3 (fun b hb => by
    rcases r4 with h3 | h3
    · exact .inl (h3 ▸ hb)
    · rw [h3] at hb; cases hb; exact .inr (Nat.le_refl _)) (setCell_heap hcell2 0 _) (grown_setCell _ _ _ _) (by have := hfa.sync; simp; omega)
  obtain ⟨hd2, hs2⟩ := hput
  obtain ⟨hd3, hs3⟩ := hd2.setUsed (used + x.length)
  have Hpost : Hid (AppPost B w p r size used born fs n x (.returned (.int .i64 0)) ((w2.setCell ⟨f.fb, 0, none⟩ (.slice va' (bcells (f.b ++ x)).length vc')).setCell ⟨p, 1, none⟩ (.int .i64 (used + x.length)))) := Lib.hid ⟨rfl, _, hd3, ((Sep.ofGrow hgd).trans hs2).trans hs3, by rw [vw_put H.out.names hm, hnm]⟩
  obtain ⟨e0, e1, e2, e3⟩ := hd2.cells
  have l2 := lt_of_getElem? hcell2
  have lp2 := lt_of_getElem? hd2.self
  have f2 : ∀ i, w2.frozen? ⟨f.fb, i, none⟩ = false := fun i => by simp [World.frozen?, hcell2]
  have z0 : w2.cell? ⟨f.fb, 0, none⟩ = some f.bv := by simp [World.cell?, hcell2]
  have f3 : ∀ i, (w2.setCell ⟨f.fb, 0, none⟩ (.slice va' (bcells (f.b ++ x)).length vc')).frozen? ⟨p, i, none⟩ = false := fun i => by simp [World.frozen?, hd2.self]
  rw [hbv] at r1
  have Hrun := Lib.hid r1
  clear r1 r2 r3 r4 hd2 hs2 hd3 hs3 hcell2 hfa hbv h1 hx1 hm hnm hw1d hgd
  go_wp2_with fail
  refine wp_loop_rounds 2 ?_
  rw [rounds_succ]
  go_wp2_with (at_builtin; refine wpList_append rfl rfl rfl rfl Hrun.out ?_)
  rw [rounds_succ]
  go_wp2
  go_ret
  exact Hpost.out

set_option maxRecDepth 100000 in
set_option maxHeartbeats 4000000 in
theorem append1_none {B : Nat} {w : World} {p r : Nat} {size used born : Int} {fs : List Fe} (h : DiskAt B w p r size used born fs) {n : ByteArray} (hfo : fileOf n fs = none) (hn : NameOk n)
    {qb : Nat} {pv : Value} {x : List UInt8} (hq : w.heap[qb]? = some (.cells #[pv] 23 (0, 0))) (hx : Bv w pv x) (hu : 0 ≤ used) (hroom : used + x.length ≤ size) (hsz : size ≤ 1073741824) :
    Calls Tryd.prog 25 #[.pointer (some ⟨p, 0, none⟩), .string n, .slice (some ⟨qb, 0, none⟩) 1 1] w (AppPost B w p r size used born fs n x) := by
  obtain ⟨c0, c1, c2, c3⟩ := h.cells
  have lp := lt_of_getElem? h.self
  have p0 : w.cell? ⟨qb, 0, none⟩ = some pv := by simp [World.cell?, hq]
  have lq := lt_of_getElem? hq
  obtain ⟨xa, xc, rfl⟩ := hx.slice
  have hroom' : ¬ size < used + (x.length : Int) := by omega
  have hroom2 : decide (size < used + (x.length : Int)) = false := by simpa using hroom
  have hw1 : IntKind.i64.wrap (used + (x.length : Int)) = used + (x.length : Int) := IntWalk.i64_in _ (by omega)
  have H := Lib.hid h
  have Hx := Lib.hid hx
  have Hfo := Lib.hid hfo
  have Hq := Lib.hid hq
  have hcl := Grow.cells (w := w)
  clear h hx hfo hq
  go_enter Tryd.func25, Tryd.ntmps25
  go_wp2_with fail
  refine wp_loop_rounds 2 ?_
  rw [rounds_succ]
  go_wp2_with fail
  rw [rounds_succ]
  go_wp2_with ((with_reducible refine (name_ok hn _).mono ?_); rintro e w1 ⟨rfl, hw⟩; have hw' := hw.symm; subst hw'; clear hw)
  refine wp_region_pi (fun W => Below w.heap.size w W) [(0, false), (1, false), (2, false), (3, false), (4, false), (5, false), (6, false), (7, false), (8, false), (9, false), (10, false), (11, false)] (by kernel_rfl) (by kernel_rfl) (fun c a d v w h => by cases d <;> exact h) (Grow.drew _) ?_
  simp only [arrange, nth]
  repeat (first | (refine wpPi_quiet (v := ?_) (by rfl) (fun W hW => ?_) ?_; rotate_left; (obtain hW := hW; go_simp; with_reducible rfl); simp only [Act.put, List.setIfInBounds_toArray, List.set_cons_zero, List.set_cons_succ]) | (refine wpPi_off (by rfl) ?_; simp only [Act.put, List.setIfInBounds_toArray, List.set_cons_zero, List.set_cons_succ]))
  refine wpPi_nil ?_
  have hgd : Grow w w.drew := Grow.drew w
  have h1 := H.out.grow hgd
  have hx1 := Hx.out.grow hgd
  have Hq1 := Lib.hid (hgd.heap Hq.out)
  clear c0 c1 c2 c3 lp p0 lq hcl
  generalize hw1d : w.drew = w1 at *
  have hlk := h1.lookup n
  obtain ⟨c0, c1, c2, c3⟩ := h1.cells
  have lp := lt_of_getElem? h1.self
  simp only [fileVal, Hfo.out] at hlk
  obtain ⟨ck, hmap, hck⟩ := h1.map
  obtain ⟨hd2, hs2⟩ := h1.newFile Hfo.out hmap hck
  have hga : Grow w1 (w1.alloc (.cells #[.slice none 0 0, .int .i64 0] 67)) := Grow.alloc _ _
  have hupd := run_mapUpdate_new keyOkS Tryd.underlying50 (hga.heap hmap) n (.pointer (some ⟨w1.heap.size, 0, none⟩)) (fun e he => by
    obtain ⟨f, hf, rfl⟩ := List.mem_map.1 he
    exact fileOf_none Hfo.out f hf)
  have hga3 : (w1.alloc (.cells #[.slice none 0 0, .int .i64 0] 67)).cell? ⟨p, 3, none⟩ = some (.map (some r)) := by rw [World.cell?_alloc_lt _ _ _ lp]; exact c3
  have hro : ∀ (b : Nat) (arr : Array Value) (t : TypeId) (f : Nat × Nat), w1.heap[b]? = some (.cells arr t f) → (setO (w1.alloc (.cells #[.slice none 0 0, .int .i64 0] 67)) r (.map (((fs.map Fe.ent) ++ [(⟨n, .pointer (some ⟨w1.heap.size, 0, none⟩), ck⟩ : Ent ByteArray)]).map (Ent.raw Value.string)).toArray (ck + 1))).heap[b]? = w1.heap[b]? := fun b arr t f hb => by
    rw [setO_other (fun e => by rw [e, hmap] at hb; cases hb)]
    exact heap_alloc_old _ _ (lt_of_getElem? hb)
  have hx2 := hx1.keep (by simp [setO]) hro
  have hq2 := (hro _ _ _ _ Hq1.out).trans Hq1.out
  have hq2' := hq2
  clear hro
  have lp1 : p < (w1.alloc (.cells #[.slice none 0 0, .int .i64 0] 67)).heap.size := Nat.lt_of_lt_of_le lp hga.size
  generalize hw2d : setO (w1.alloc (.cells #[.slice none 0 0, .int .i64 0] 67)) r (.map (((fs.map Fe.ent) ++ [(⟨n, .pointer (some ⟨w1.heap.size, 0, none⟩), ck⟩ : Ent ByteArray)]).map (Ent.raw Value.string)).toArray (ck + 1)) = w2 at *
  clear hw2d
  have Hs2 := Lib.hid ((Sep.ofGrow hgd).trans hs2)
  have Hd2 := Lib.hid hd2
  have Hx2 := Lib.hid hx2
  have Hq2 := Lib.hid hq2
  clear hmap hck h1 hx1 hs2 hd2 hx2 hq2 hga hw1d hgd Hq1
  go_upto_region 15 with fail
  clear hupd hga3 lp1 c0 c1 c2 c3 lp hlk
  generalize w1.heap.size = fb at *
  have hd2 := Hd2.out
  have hm : (⟨n, ck, fb, .slice none 0 0, [], 0⟩ : Fe) ∈ fs ++ [(⟨n, ck, fb, .slice none 0 0, [], 0⟩ : Fe)] := by simp
  have hfa := hd2.files _ hm
  have p0 : w2.cell? ⟨qb, 0, none⟩ = some (.slice xa x.length xc) := by simp [World.cell?, Hq2.out]
  have lq := lt_of_getElem? Hq2.out
  obtain ⟨v', w3, r1, r2, r3, r4⟩ := append_bytes hfa.row Hx2.out hd2.base.2.2 (by simp; omega)
  obtain ⟨va', vc', rfl⟩ := r2.slice
  have hcf : w2.heap[fb]? = some (.cells #[.slice none 0 0, .int .i64 0] 67 (0, 0)) := hfa.cell
  have q0 : w2.cell? ⟨fb, 0, none⟩ = some (.slice none 0 0) := by simp [World.cell?, hcf]
  have lf := lt_of_getElem? hcf
  have hcell3 : w3.heap[fb]? = some (.cells #[.slice none 0 0, .int .i64 0] 67 (0, 0)) := by rw [r3.block _ lf (fun e => by cases e)]; exact hcf
  obtain ⟨hd3, hs3⟩ := hd2.put hm (w2 := w3.setCell ⟨fb, 0, none⟩ (.slice va' (bcells ([] ++ x)).length vc')) (s := 0) r2 r3 (fun b hb => by
    rcases r4 with h3 | h3
    · exact .inl (h3 ▸ hb)
    · rw [h3] at hb; cases hb; exact .inr (Nat.le_refl _)) (setCell_heap hcell3 0 _) (grown_setCell _ _ _ _) (Nat.zero_le _)
  obtain ⟨hd4, hs4⟩ := hd3.setUsed (used + x.length)
  have hvw : vw (putF n (.slice va' (bcells ([] ++ x)).length vc') ([] ++ x) 0 (fs ++ [(⟨n, ck, fb, .slice none 0 0, [], 0⟩ : Fe)])) = appV n x (vw fs) := by
    rw [← vw_new Hfo.out ck fb (.slice none 0 0) x]
    unfold vw putF
    rw [List.map_map, List.map_append, List.map_append]
    congr 1
    · refine List.map_congr_left fun g hg => ?_
      have : g.name ≠ n := Ne.symm (fileOf_none Hfo.out g hg)
      simp [Function.comp, this]
    · simp
  have Hpost : Hid (AppPost B w p r size used born fs n x (.returned (.int .i64 0)) ((w3.setCell ⟨fb, 0, none⟩ (.slice va' (bcells ([] ++ x)).length vc')).setCell ⟨p, 1, none⟩ (.int .i64 (used + x.length)))) := Lib.hid ⟨rfl, _, hd4, (Hs2.out.trans hs3).trans hs4, hvw⟩
  generalize hln : (bcells ([] ++ x)).length = ln at *
  obtain ⟨e0, e1, e2, e3⟩ := hd3.cells
  have l2 := lt_of_getElem? hcell3
  have lp2 := lt_of_getElem? hd3.self
  have f2 : ∀ i, w3.frozen? ⟨fb, i, none⟩ = false := fun i => by simp [World.frozen?, hcell3]
  have z0 : w3.cell? ⟨fb, 0, none⟩ = some (.slice none 0 0) := by simp [World.cell?, hcell3]
  have f3 : ∀ i, (w3.setCell ⟨fb, 0, none⟩ (.slice va' ln vc')).frozen? ⟨p, i, none⟩ = false := fun i => by simp [World.frozen?, hd3.self]
  have Hrun := Lib.hid r1
  clear r1 r2 r3 r4 hd2 hd3 hs3 hd4 hs4 hcell3 hfa hm hcf hvw hln
  go_wp2_with fail
  refine wp_loop_rounds 2 ?_
  rw [rounds_succ]
  go_wp2_with (at_builtin; refine wpList_append rfl rfl rfl rfl Hrun.out ?_)
  rw [rounds_succ]
  go_wp2
  go_ret
  exact Hpost.out
end Go.Proofs.YtpiedpdffkfhpaaDoor

/- disk.Append of no part: a new file. -/
namespace Go.Proofs.YtpiedpdffkfhpaaDoor
open Go.RowKit Go.Gl Go.Wal

set_option maxRecDepth 100000 in
set_option maxHeartbeats 4000000 in
theorem append0_none {B : Nat} {w : World} {p r : Nat} {size used born : Int} {fs : List Fe} (h : DiskAt B w p r size used born fs) {n : ByteArray} (hfo : fileOf n fs = none) (hn : NameOk n)
    (hu : 0 ≤ used) (hroom : used ≤ size) (hsz : size ≤ 1073741824) :
    Calls Tryd.prog 25 #[.pointer (some ⟨p, 0, none⟩), .string n, .slice none 0 0] w fun e w' => e = .returned (.int .i64 0) ∧ ∃ fs', DiskAt B w' p r size used born fs' ∧ Sep (Foot p r fs) w w' (Foot p r fs') ∧ vw fs' = vw fs ++ [(n, [], 0)] := by
  obtain ⟨c0, c1, c2, c3⟩ := h.cells
  have lp := lt_of_getElem? h.self
  have hroom' : ¬ size < used := by omega
  have hroom2 : decide (size < used) = false := by simpa using hroom
  have hw1 : IntKind.i64.wrap used = used := IntWalk.i64_in _ (by omega)
  have H := Lib.hid h
  have Hfo := Lib.hid hfo
  have hcl := Grow.cells (w := w)
  clear h hfo
  go_enter Tryd.func25, Tryd.ntmps25
  go_wp2_with fail
  refine wp_loop_rounds 1 ?_
  rw [rounds_succ]
  go_wp2_with ((with_reducible refine (name_ok hn _).mono ?_); rintro e w1 ⟨rfl, hw⟩; have hw' := hw.symm; subst hw'; clear hw)
  refine wp_region_pi (fun W => Below w.heap.size w W) [(0, false), (1, false), (2, false), (3, false), (4, false), (5, false), (6, false), (7, false), (8, false), (9, false), (10, false), (11, false)] (by kernel_rfl) (by kernel_rfl) (fun c a d v w h => by cases d <;> exact h) (Grow.drew _) ?_
  simp only [arrange, nth]
  repeat (first | (refine wpPi_quiet (v := ?_) (by rfl) (fun W hW => ?_) ?_; rotate_left; (obtain hW := hW; go_simp; with_reducible rfl); simp only [Act.put, List.setIfInBounds_toArray, List.set_cons_zero, List.set_cons_succ]) | (refine wpPi_off (by rfl) ?_; simp only [Act.put, List.setIfInBounds_toArray, List.set_cons_zero, List.set_cons_succ]))
  refine wpPi_nil ?_
  have hgd : Grow w w.drew := Grow.drew w
  have h1 := H.out.grow hgd
  clear c0 c1 c2 c3 lp hcl
  generalize hw1d : w.drew = w1 at *
  have hlk := h1.lookup n
  obtain ⟨c0, c1, c2, c3⟩ := h1.cells
  have lp := lt_of_getElem? h1.self
  simp only [fileVal, Hfo.out] at hlk
  obtain ⟨ck, hmap, hck⟩ := h1.map
  obtain ⟨hd2, hs2⟩ := h1.newFile Hfo.out hmap hck
  have hga : Grow w1 (w1.alloc (.cells #[.slice none 0 0, .int .i64 0] 67)) := Grow.alloc _ _
  have hupd := run_mapUpdate_new keyOkS Tryd.underlying50 (hga.heap hmap) n (.pointer (some ⟨w1.heap.size, 0, none⟩)) (fun e he => by
    obtain ⟨f, hf, rfl⟩ := List.mem_map.1 he
    exact fileOf_none Hfo.out f hf)
  have hga3 : (w1.alloc (.cells #[.slice none 0 0, .int .i64 0] 67)).cell? ⟨p, 3, none⟩ = some (.map (some r)) := by rw [World.cell?_alloc_lt _ _ _ lp]; exact c3
  have lp1 : p < (w1.alloc (.cells #[.slice none 0 0, .int .i64 0] 67)).heap.size := Nat.lt_of_lt_of_le lp hga.size
  generalize hw2d : setO (w1.alloc (.cells #[.slice none 0 0, .int .i64 0] 67)) r (.map (((fs.map Fe.ent) ++ [(⟨n, .pointer (some ⟨w1.heap.size, 0, none⟩), ck⟩ : Ent ByteArray)]).map (Ent.raw Value.string)).toArray (ck + 1)) = w2 at *
  clear hw2d
  obtain ⟨hd4, hs4⟩ := hd2.setUsed used
  obtain ⟨e0, e1, e2, e3⟩ := hd2.cells
  have lp2 := lt_of_getElem? hd2.self
  have f3 : ∀ i, w2.frozen? ⟨p, i, none⟩ = false := fun i => by simp [World.frozen?, hd2.self]
  have Hpost : Hid (∃ fs', DiskAt B (w2.setCell ⟨p, 1, none⟩ (.int .i64 used)) p r size used born fs' ∧ Sep (Foot p r fs) w (w2.setCell ⟨p, 1, none⟩ (.int .i64 used)) (Foot p r fs') ∧ vw fs' = vw fs ++ [(n, [], 0)]) := Lib.hid ⟨_, hd4, ((Sep.ofGrow hgd).trans hs2).trans hs4, by simp [vw]⟩
  clear hmap hck h1 hs2 hd2 hga hw1d hgd hd4 hs4
  go_wp2_with fail
  refine wp_loop_rounds 1 ?_
  rw [rounds_succ]
  go_wp2
  go_ret
  exact ⟨rfl, Hpost.out⟩
end Go.Proofs.YtpiedpdffkfhpaaDoor

/- disk.all at one name. -/
namespace Go.Proofs.YtpiedpdffkfhpaaDoor
open Go.RowKit Go.Gl Go.Wal

theorem allClo_any {B : Nat} {w : World} {p r : Nat} {size used born : Int} {fs : List Fe} (h : DiskAt B w p r size used born fs) (n : ByteArray) {bx : Nat} (hb : w.heap[bx]? = some (.cells #[.pointer (some ⟨p, 0, none⟩)] 25 (0, 0))) :
    Calls Tryd.prog 48 #[.string n, .pointer (some ⟨bx, 0, none⟩)] w fun e w' => e = .returned (.bool (fileOf n fs).isNone) ∧ w' = w := by
  have hlk := h.lookup n
  obtain ⟨c0, c1, c2, c3⟩ := h.cells
  have lp := lt_of_getElem? h.self
  have b0 : w.cell? ⟨bx, 0, none⟩ = some (.pointer (some ⟨p, 0, none⟩)) := by simp [World.cell?, hb]
  have lb := lt_of_getElem? hb
  cases hf : fileOf n fs with
  | none =>
    simp only [fileVal, hf] at hlk
    clear hf
    go_enter Tryd.func48, Tryd.ntmps48
    go_wp2
    go_ret
    exact ⟨rfl, rfl⟩
  | some f =>
    simp only [fileVal, hf] at hlk
    clear hf
    go_enter Tryd.func48, Tryd.ntmps48
    go_wp2
    go_ret
    exact ⟨rfl, rfl⟩

/-- slices.ContainsFunc at one text. -/
theorem contains1 {w : World} {n : ByteArray} {qb : Nat} (hq : w.heap[qb]? = some (.cells #[.string n] 9 (0, 0))) {fn : FuncId} {fv : Value} {b : Bool} (hfn : ∃ F, Tryd.prog.funcs[fn]? = some F ∧ F.params.size = 1)
    (hc : Calls Tryd.prog fn #[.string n, fv] w fun e w' => e = .returned (.bool b) ∧ w' = w) (henter : ∀ args w, (callFunc fn args).run Tryd.prog w = .ok (.enter fn args) w) :
    Calls Tryd.prog 40 #[.slice (some ⟨qb, 0, none⟩) 1 1, .func (.func fn) #[] #[fv]] w fun e w' => e = .returned (.bool b) ∧ w' = w := by
  have q0 : w.cell? ⟨qb, 0, none⟩ = some (.string n) := by simp [World.cell?, hq]
  have lq := lt_of_getElem? hq
  have hidx : Calls Tryd.prog 54 #[.slice (some ⟨qb, 0, none⟩) 1 1, .func (.func fn) #[] #[fv]] w fun e w' => e = .returned (.int .i64 (if b then 0 else -1)) ∧ w' = w := by
    have Hc := Lib.hid hc
    clear hc hq
    go_enter Tryd.func54, Tryd.ntmps54
    go_wp2_with fail
    refine wp_loop_rounds 2 ?_
    rw [rounds_succ]
    go_wp2_with fail
    (with_reducible refine Hc.out.mono ?_)
    rintro e w1 ⟨rfl, hw⟩
    have hw' := hw.symm
    subst hw'
    clear hw
    cases b with
    | true =>
      go_wp2
      go_ret
      exact ⟨rfl, rfl⟩
    | false =>
      go_wp2_with fail
      rw [rounds_succ]
      go_wp2
      go_ret
      exact ⟨rfl, rfl⟩
  have Hidx := Lib.hid hidx
  clear hidx hc hq
  go_enter Tryd.func40, Tryd.ntmps40
  go_wp2_with fail
  (with_reducible refine Hidx.out.mono ?_)
  rintro e w1 ⟨rfl, hw⟩
  have hw' := hw.symm
  subst hw'
  clear hw
  cases b <;> (go_wp2; go_ret; exact ⟨rfl, rfl⟩)

set_option maxRecDepth 100000 in
theorem all1 {B : Nat} {w : World} {p r : Nat} {size used born : Int} {fs : List Fe} (h : DiskAt B w p r size used born fs) (n : ByteArray) {qb : Nat} (hq : w.heap[qb]? = some (.cells #[.string n] 9 (0, 0))) :
    Calls Tryd.prog 34 #[.pointer (some ⟨p, 0, none⟩), .slice (some ⟨qb, 0, none⟩) 1 1] w fun e w' => e = .returned (.bool (fileOf n fs).isSome) ∧ Grow w w' := by
  have hga : Grow w (w.alloc (.cells #[.pointer (some ⟨p, 0, none⟩)] 25)) := Grow.alloc _ _
  have hb1 := heap_alloc_new w (.cells #[.pointer (some ⟨p, 0, none⟩)] 25)
  have hcon := contains1 (hga.heap hq) (fn := 48) ⟨_, Tryd.func48, by kernel_rfl⟩ (allClo_any (h.grow hga) n hb1) (enters_of Tryd.func48 (by kernel_rfl) rfl)
  have Hcon := Lib.hid hcon
  have Hga := Lib.hid hga
  clear hcon hga hb1
  go_enter Tryd.func34, Tryd.ntmps34
  go_wp2_with fail
  (with_reducible refine Hcon.out.mono ?_)
  rintro e w1 ⟨rfl, hw⟩
  subst hw
  cases hf : fileOf n fs <;> (have Hf := Lib.hid hf; clear hf; go_wp2; go_ret; exact ⟨by rw [Hf.out]; rfl, Hga.out⟩)
end Go.Proofs.YtpiedpdffkfhpaaDoor

/- disk.Sync of one file that is there. -/
namespace Go.Proofs.YtpiedpdffkfhpaaDoor
open Go.RowKit Go.Gl Go.Wal

def synV (n : ByteArray) (V : Vw) : Vw := V.map (fun e => if e.1 = n then (e.1, e.2.1, e.2.1.length) else e)

theorem vw_sync {fs : List Fe} (h : (fs.map Fe.name).Nodup) {f : Fe} (hf : f ∈ fs) : vw (putF f.name f.bv f.b f.b.length fs) = synV f.name (vw fs) := by
  unfold synV vw putF
  rw [List.map_map, List.map_map]
  refine List.map_congr_left fun g hg => ?_
  simp only [Function.comp]
  by_cases hn : g.name = f.name
  · have := name_inj h hg hf hn
    subst this
    simp
  · simp [hn]

set_option maxRecDepth 100000 in
set_option maxHeartbeats 4000000 in
theorem sync1 {B : Nat} {w : World} {p r : Nat} {size used born : Int} {fs : List Fe} (h : DiskAt B w p r size used born fs) {n : ByteArray} {f : Fe} (hfo : fileOf n fs = some f) {qb : Nat} (hq : w.heap[qb]? = some (.cells #[.string n] 9 (0, 0))) (_hfl : f.b.length ≤ 1073741824) :
    Calls Tryd.prog 24 #[.pointer (some ⟨p, 0, none⟩), .slice (some ⟨qb, 0, none⟩) 1 1] w fun e w' => e = .returned (.int .i64 0) ∧ ∃ fs', DiskAt B w' p r size used born fs' ∧ Sep (Foot p r fs) w w' (Foot p r fs') ∧ vw fs' = synV n (vw fs) := by
  have hall := all1 h n hq
  rw [hfo] at hall
  have Hall := Lib.hid hall
  have H := Lib.hid h
  have Hfo := Lib.hid hfo
  have Hq := Lib.hid hq
  clear hall h hfo hq
  go_enter Tryd.func24, Tryd.ntmps24
  go_wp2_with fail
  (with_reducible refine Hall.out.mono ?_)
  rintro e w1 ⟨rfl, hg1⟩
  have h1 := H.out.grow hg1
  have hq1 := hg1.heap Hq.out
  have q0 : w1.cell? ⟨qb, 0, none⟩ = some (.string n) := by simp [World.cell?, hq1]
  have lq := lt_of_getElem? hq1
  have e0 : (Option.some f).isSome = true := rfl
  go_wp2_with fail
  refine wp_loop_rounds 2 ?_
  rw [rounds_succ]
  go_upto_region 6 with fail
  obtain ⟨hm, hnm⟩ := fileOf_some Hfo.out
  have hlk : ∀ W, Below w1.heap.size w1 W → (Instr.lookup 50 (.map (some r)) (.string n) false).run Tryd.prog W = .ok (.pointer (some ⟨f.fb, 0, none⟩)) W := fun W hW => by
    have := (h1.grow hW).lookup n
    simpa only [fileVal, Hfo.out] using this
  obtain ⟨c0, c1, c2, c3⟩ := h1.cells
  have lp := lt_of_getElem? h1.self
  have hfa := h1.files f hm
  obtain ⟨ba, bc, hbv⟩ := hfa.row.slice
  have z0 : w1.cell? ⟨f.fb, 0, none⟩ = some (.slice ba (bcells f.b).length bc) := by simp [World.cell?, hfa.cell, hbv]
  have z1 : w1.cell? ⟨f.fb, 1, none⟩ = some (.int .i64 f.synced) := by simp [World.cell?, hfa.cell]
  have lf := lt_of_getElem? hfa.cell
  have ff : ∀ i, w1.frozen? ⟨f.fb, i, none⟩ = false := fun i => by simp [World.frozen?, hfa.cell]
  have hcl := Grow.cells (w := w1)
  have hgd : Grow w1 w1.drew := Grow.drew w1
  have hd1 := h1.grow hgd
  have hrow : OwnB B w1.drew f.bv f.b := (hd1.files f hm).row
  obtain ⟨hd2, hs2⟩ := hd1.put hm (w1 := w1.drew) (w2 := w1.drew.setCell ⟨f.fb, 1, none⟩ (.int .i64 f.b.length)) (s := f.b.length) hrow ⟨rfl, rfl, rfl, Nat.le_refl _, fun _ _ _ => rfl⟩ (fun b hb => .inl hb) (setCell_heap (hd1.files f hm).cell 1 _) (grown_setCell _ _ _ _) (Nat.le_refl _)
  have hvw := vw_sync H.out.names hm
  rw [hnm] at hvw hd2 hs2
  have Hpost : Hid (∃ fs', DiskAt B (w1.drew.setCell ⟨f.fb, 1, none⟩ (.int .i64 f.b.length)) p r size used born fs' ∧ Sep (Foot p r fs) w (w1.drew.setCell ⟨f.fb, 1, none⟩ (.int .i64 f.b.length)) (Foot p r fs') ∧ vw fs' = synV n (vw fs)) := Lib.hid ⟨_, hd2, (Sep.ofGrow (hg1.trans hgd)).trans hs2, hvw⟩
  have hln : (bcells f.b).length = f.b.length := bcells_len _
  rw [hln] at z0
  clear hd2 hs2 hvw hrow hd1 hgd hfa hbv h1 hm hnm hln hq1 c0 c1 c2
  refine wp_region_last (fun W => Below w1.heap.size w1 W) [(0, false), (1, false), (2, false), (3, false), (4, false), (5, false), (6, false), (7, false), (8, false), (9, false), (10, false), (11, false), (12, false), (13, false), (14, false), (15, false), (16, false), (17, false)] 18 (by kernel_rfl) (by kernel_rfl) (fun c a d v w h => by cases d <;> exact h) (Grow.drew _) ?_
  simp only [arrange, nth]
  repeat (first | (refine wpPi_quiet (v := ?_) (by rfl) (fun W hW => ?_) ?_; rotate_left; (obtain hW := hW; go_simp; with_reducible rfl); simp only [Act.put, List.setIfInBounds_toArray, List.set_cons_zero, List.set_cons_succ]) | (refine wpPi_off (by rfl) ?_; simp only [Act.put, List.setIfInBounds_toArray, List.set_cons_zero, List.set_cons_succ]))
  refine wpPi_nil ?_
  refine lastQ_act (by rfl) (fun K hK => ?_)
  go_simp
  refine hK _ _ ?_
  clear hK K hlk hcl
  try simp only [Act.put, List.setIfInBounds_toArray, List.set_cons_zero, List.set_cons_succ]
  go_wp2_with fail
  rw [rounds_succ]
  go_wp2
  go_ret
  exact ⟨rfl, Hpost.out⟩
end Go.Proofs.YtpiedpdffkfhpaaDoor

/- disk.Delete of one file. -/
namespace Go.Proofs.YtpiedpdffkfhpaaDoor
open Go.RowKit Go.Gl Go.Wal

def delV (n : ByteArray) (V : Vw) : Vw := V.filter (fun e => decide (n ≠ e.1))
def delF (n : ByteArray) (fs : List Fe) : List Fe := fs.filter (fun f => decide (n ≠ f.name))

theorem vw_del (n : ByteArray) (fs : List Fe) : vw (delF n fs) = delV n (vw fs) := by
  unfold vw delF delV
  rw [List.filter_map]
  rfl
theorem ent_del (n : ByteArray) (fs : List Fe) : (delF n fs).map Fe.ent = (fs.map Fe.ent).filter (fun e => decide (n ≠ e.key)) := by
  unfold delF
  rw [List.filter_map]
  rfl

section
variable {B : Nat} {w : World} {p r : Nat} {size used born : Int} {fs : List Fe}
theorem DiskAt.del (h : DiskAt B w p r size used born fs) (n : ByteArray) {c : Nat} (hm : MapAt w r Value.string (fs.map Fe.ent) c) (hc : ∀ f ∈ fs, f.born < c) :
    DiskAt B (setO w r (.map (((fs.map Fe.ent).filter (fun e => decide (n ≠ e.key))).map (Ent.raw Value.string)).toArray c)) p r size used born (delF n fs) ∧
    Sep (Foot p r fs) w (setO w r (.map (((fs.map Fe.ent).filter (fun e => decide (n ≠ e.key))).map (Ent.raw Value.string)).toArray c)) (Foot p r (delF n fs)) := by
  have hrl := lt_of_getElem? hm
  rw [← ent_del]
  generalize hw2 : setO w r (.map (((delF n fs).map Fe.ent).map (Ent.raw Value.string)).toArray c) = w2
  have ho : ∀ b, b ≠ r → w2.heap[b]? = w.heap[b]? := fun b hbr => by rw [← hw2, setO_other hbr]
  have hr2 : MapAt w2 r Value.string ((delF n fs).map Fe.ent) c := by
    rw [← hw2]
    unfold MapAt
    rw [setO_same hrl]
  have hsz : w2.heap.size = w.heap.size := by rw [← hw2]; simp [setO]
  have hsub : ∀ f ∈ delF n fs, f ∈ fs := fun f hf => (List.mem_filter.1 hf).1
  refine ⟨⟨(ho p h.p_ne_r).trans h.self, ⟨c, hr2, fun f hf => hc f (hsub f hf)⟩, h.names.sublist (List.filter_sublist.map _), h.borns.sublist (List.filter_sublist.map _), h.fbs.sublist (List.filter_sublist.map _), fun f hf g hg => h.rows f (hsub f hf) g (hsub g hg), fun f hf => ?_, h.base.1, h.base.2.1, by rw [hsz]; exact h.base.2.2⟩, ⟨by rw [← hw2]; rfl, by rw [← hw2]; rfl, by rw [← hw2]; rfl, by omega, fun b _ hn => ho b (fun e => hn (.inr (.inl e))), ?_⟩⟩
  · have hfa := h.files f (hsub f hf)
    exact ⟨(ho _ (h.fb_ne (hsub f hf)).2).trans hfa.cell, hfa.row.keep (fun b hb => ho b (h.row_ne (hsub f hf) hb).2.1), hfa.base, hfa.sync⟩
  · rintro b (rfl | rfl | ⟨f, hf, hb⟩)
    · exact .inl (.inl rfl)
    · exact .inl (.inr (.inl rfl))
    · exact .inl (.inr (.inr ⟨f, hsub f hf, hb⟩))
end

set_option maxRecDepth 100000 in
set_option maxHeartbeats 4000000 in
theorem delete1_none {B : Nat} {w : World} {p r : Nat} {size used born : Int} {fs : List Fe} (h : DiskAt B w p r size used born fs) {n : ByteArray} (hfo : fileOf n fs = none) {qb : Nat} (hq : w.heap[qb]? = some (.cells #[.string n] 9 (0, 0))) :
    Calls Tryd.prog 27 #[.pointer (some ⟨p, 0, none⟩), .slice (some ⟨qb, 0, none⟩) 1 1] w fun e w' => e = .returned (.int .i64 4) ∧ Grow w w' := by
  have hall := all1 h n hq
  rw [hfo] at hall
  have Hall := Lib.hid hall
  clear hall h hfo hq
  go_enter Tryd.func27, Tryd.ntmps27
  go_wp2_with fail
  (with_reducible refine Hall.out.mono ?_)
  rintro e w1 ⟨rfl, hg1⟩
  have e0 : (none : Option Fe).isSome = false := rfl
  go_wp2
  go_ret
  exact ⟨rfl, hg1⟩

set_option maxRecDepth 100000 in
set_option maxHeartbeats 4000000 in
theorem delete1 {B : Nat} {w : World} {p r : Nat} {size used born : Int} {fs : List Fe} (h : DiskAt B w p r size used born fs) {n : ByteArray} {f : Fe} (hfo : fileOf n fs = some f) {qb : Nat} (hq : w.heap[qb]? = some (.cells #[.string n] 9 (0, 0))) (hfl : f.b.length ≤ 1073741824) (hu : 0 ≤ used) (hu2 : used ≤ 1073741824) :
    Calls Tryd.prog 27 #[.pointer (some ⟨p, 0, none⟩), .slice (some ⟨qb, 0, none⟩) 1 1] w fun e w' => e = .returned (.int .i64 0) ∧ ∃ fs', DiskAt B w' p r size (used - f.b.length) born fs' ∧ Sep (Foot p r fs) w w' (Foot p r fs') ∧ vw fs' = delV n (vw fs) := by
  have hall := all1 h n hq
  rw [hfo] at hall
  have Hall := Lib.hid hall
  have H := Lib.hid h
  have Hfo := Lib.hid hfo
  have Hq := Lib.hid hq
  clear hall h hfo hq
  go_enter Tryd.func27, Tryd.ntmps27
  go_wp2_with fail
  (with_reducible refine Hall.out.mono ?_)
  rintro e w1 ⟨rfl, hg1⟩
  have h1 := H.out.grow hg1
  have hq1 := hg1.heap Hq.out
  have q0 : w1.cell? ⟨qb, 0, none⟩ = some (.string n) := by simp [World.cell?, hq1]
  have lq := lt_of_getElem? hq1
  have e0 : (Option.some f).isSome = true := rfl
  obtain ⟨hm, hnm⟩ := fileOf_some Hfo.out
  have hlk : (Instr.lookup 50 (.map (some r)) (.string n) false).run Tryd.prog w1 = .ok (.pointer (some ⟨f.fb, 0, none⟩)) w1 := by
    have := h1.lookup n
    simpa only [fileVal, Hfo.out] using this
  obtain ⟨c0, c1, c2, c3⟩ := h1.cells
  have lp := lt_of_getElem? h1.self
  have hfa := h1.files f hm
  obtain ⟨ba, bc, hbv⟩ := hfa.row.slice
  have z0 : w1.cell? ⟨f.fb, 0, none⟩ = some (.slice ba f.b.length bc) := by simp [World.cell?, hfa.cell, hbv, bcells_len]
  have lf := lt_of_getElem? hfa.cell
  have ff : ∀ i, w1.frozen? ⟨p, i, none⟩ = false := fun i => by simp [World.frozen?, h1.self]
  have hcl := Grow.cells (w := w1)
  have hgd : Grow w1 w1.drew := Grow.drew w1
  have hw1 : IntKind.i64.wrap (used - (f.b.length : Int)) = used - (f.b.length : Int) := IntWalk.i64_in _ (by omega)
  obtain ⟨hd2', hs2'⟩ := (h1.grow hgd).setUsed (used - f.b.length)
  obtain ⟨w2, hw2⟩ : ∃ x, x = (w1.setCell ⟨p, 1, none⟩ (.int .i64 (used - f.b.length))).drew := ⟨_, rfl⟩
  have hd2 : DiskAt B w2 p r size (used - f.b.length) born fs := by rw [hw2]; exact hd2'
  have hs2 : Sep (Foot p r fs) w1.drew w2 (Foot p r fs) := by rw [hw2]; exact hs2'
  clear hd2' hs2'
  obtain ⟨ck, hmap, hck⟩ := hd2.map
  obtain ⟨hd3, hs3⟩ := hd2.del n hmap hck
  have hdel := run_delete (ty := 0) (kt' := 9) keyOkS Tryd.underlying50 hmap (by have := hd2.names; rw [List.map_map]; exact this) n
  obtain ⟨e0', e1', e2', e3'⟩ := hd2.cells
  have lp2 := lt_of_getElem? hd2.self
  have Hpost : Hid (∃ fs', DiskAt B (setO w2 r (.map (((fs.map Fe.ent).filter (fun e => decide (n ≠ e.key))).map (Ent.raw Value.string)).toArray ck)) p r size (used - f.b.length) born fs' ∧ Sep (Foot p r fs) w (setO w2 r (.map (((fs.map Fe.ent).filter (fun e => decide (n ≠ e.key))).map (Ent.raw Value.string)).toArray ck)) (Foot p r fs') ∧ vw fs' = delV n (vw fs)) := Lib.hid ⟨_, hd3, ((Sep.ofGrow (hg1.trans hgd)).trans hs2).trans hs3, vw_del n fs⟩
  generalize hw3 : setO w2 r (.map (((fs.map Fe.ent).filter (fun e => decide (n ≠ e.key))).map (Ent.raw Value.string)).toArray ck) = w3 at *
  have Hw2 := Lib.hid hw2
  clear hw2 hw3 hd2 hs2 hd3 hs3 hmap hck hgd hfa hbv h1 hm hnm hq1 c0 c2
  go_wp2_with fail
  refine wp_loop_rounds 2 ?_
  rw [rounds_succ]
  go_upto_region 8 with fail
  refine wp_region_last (fun W => Below w1.heap.size w1 W) [(0, false), (1, false), (2, false), (3, false), (4, false), (5, false), (6, false), (7, false), (8, false), (9, false), (10, false), (11, false)] 12 (by kernel_rfl) (by kernel_rfl) (fun c a d v w h => by cases d <;> exact h) (Grow.drew _) ?_
  simp only [arrange, nth]
  repeat (first | (refine wpPi_quiet (v := ?_) (by rfl) (fun W hW => ?_) ?_; rotate_left; (obtain hW := hW; go_simp; with_reducible rfl); simp only [Act.put, List.setIfInBounds_toArray, List.set_cons_zero, List.set_cons_succ]) | (refine wpPi_off (by rfl) ?_; simp only [Act.put, List.setIfInBounds_toArray, List.set_cons_zero, List.set_cons_succ]))
  refine wpPi_nil ?_
  refine lastQ_act (by rfl) (fun K hK => ?_)
  go_simp
  refine hK _ ((w1.setCell ⟨p, 1, none⟩ (.int .i64 (used - f.b.length))).drew) ?_
  clear hK K hcl
  try simp only [Act.put, List.setIfInBounds_toArray, List.set_cons_zero, List.set_cons_succ]
  rw [← Hw2.out]
  go_wp2_with fail
  rw [rounds_succ]
  go_wp2
  go_ret
  exact ⟨rfl, Hpost.out⟩
end Go.Proofs.YtpiedpdffkfhpaaDoor

/- disk.Rename onto a file that is there. -/
namespace Go.Proofs.YtpiedpdffkfhpaaDoor
open Go.RowKit Go.Gl Go.Wal

def renF (m n : ByteArray) (f : Fe) (fs : List Fe) : List Fe := (delF m fs).map fun g => if g.name = n then { g with fb := f.fb, bv := f.bv, b := f.b, synced := f.synced } else g
def renV (m n : ByteArray) (b : List UInt8) (s : Nat) (V : Vw) : Vw := (delV m V).map fun e => if e.1 = n then (e.1, b, s) else e

theorem vw_ren (m n : ByteArray) (f : Fe) (fs : List Fe) : vw (renF m n f fs) = renV m n f.b f.synced (vw fs) := by
  unfold renV
  rw [← vw_del]
  unfold renF vw
  rw [List.map_map, List.map_map]
  refine List.map_congr_left fun g _ => ?_
  simp only [Function.comp]
  by_cases h : g.name = n
  · simp [h]
  · simp [h]

theorem ent_ren (m n : ByteArray) (f : Fe) (fs : List Fe) (_hmn : m ≠ n) : (renF m n f fs).map Fe.ent = ((putV n (.pointer (some ⟨f.fb, 0, none⟩)) (fs.map Fe.ent)).filter (fun e => decide (m ≠ e.key))) := by
  unfold renF delF putV
  rw [List.map_map, List.map_map, List.filter_map]
  have : ((fun e : Ent ByteArray => decide (m ≠ e.key)) ∘ (fun e : Ent ByteArray => if n = e.key then { e with val := .pointer (some ⟨f.fb, 0, none⟩) } else e) ∘ Fe.ent) = (fun g : Fe => decide (m ≠ g.name)) := by
    have hk : ∀ e : Ent ByteArray, (if n = e.key then { e with val := .pointer (some ⟨f.fb, 0, none⟩) } else e).key = e.key := fun e => by split <;> rfl
    funext g
    simp only [Function.comp, hk]
    rfl
  rw [this]
  refine List.map_congr_left fun g _ => ?_
  simp only [Function.comp]
  by_cases h : g.name = n
  · have h' : n = g.ent.key := h.symm
    rw [if_pos h, if_pos h']; rfl
  · have h' : ¬ n = g.ent.key := Ne.symm h
    rw [if_neg h, if_neg h']

theorem renF_mem {m n : ByteArray} {f : Fe} {fs : List Fe} {g : Fe} (h : g ∈ renF m n f fs) : ∃ g0 ∈ fs, g0.name ≠ m ∧ g.name = g0.name ∧ g.born = g0.born ∧ ((g0.name = n ∧ g.fb = f.fb ∧ g.bv = f.bv ∧ g.b = f.b ∧ g.synced = f.synced) ∨ (g0.name ≠ n ∧ g = g0)) := by
  obtain ⟨g0, h0, rfl⟩ := List.mem_map.1 h
  obtain ⟨h1, h2⟩ := List.mem_filter.1 h0
  refine ⟨g0, h1, fun e => by simp [e] at h2, ?_⟩
  by_cases hn : g0.name = n
  · rw [if_pos hn]; exact ⟨rfl, rfl, .inl ⟨hn, rfl, rfl, rfl, rfl⟩⟩
  · rw [if_neg hn]; exact ⟨rfl, rfl, .inr ⟨hn, rfl⟩⟩

section
variable {B : Nat} {w : World} {p r : Nat} {size used born : Int} {fs : List Fe}
theorem DiskAt.ren (h : DiskAt B w p r size used born fs) {m n : ByteArray} {f : Fe} (hf : f ∈ fs) (hfm : f.name = m) (_hmn : m ≠ n) {c : Nat} (hm : MapAt w r Value.string (fs.map Fe.ent) c) (hc : ∀ f ∈ fs, f.born < c) :
    DiskAt B (setO w r (.map (((renF m n f fs).map Fe.ent).map (Ent.raw Value.string)).toArray c)) p r size used born (renF m n f fs) ∧
    Sep (Foot p r fs) w (setO w r (.map (((renF m n f fs).map Fe.ent).map (Ent.raw Value.string)).toArray c)) (Foot p r (renF m n f fs)) := by
  have hrl := lt_of_getElem? hm
  generalize hw2 : setO w r (.map (((renF m n f fs).map Fe.ent).map (Ent.raw Value.string)).toArray c) = w2
  have ho : ∀ b, b ≠ r → w2.heap[b]? = w.heap[b]? := fun b hbr => by rw [← hw2, setO_other hbr]
  have hr2 : MapAt w2 r Value.string ((renF m n f fs).map Fe.ent) c := by
    rw [← hw2]
    unfold MapAt
    rw [setO_same hrl]
  have hsz : w2.heap.size = w.heap.size := by rw [← hw2]; simp [setO]
  have hnames : (renF m n f fs).map Fe.name = (delF m fs).map Fe.name := by
    unfold renF
    rw [List.map_map]
    refine List.map_congr_left fun g _ => ?_
    simp only [Function.comp]
    split <;> rfl
  have hborns : (renF m n f fs).map Fe.born = (delF m fs).map Fe.born := by
    unfold renF
    rw [List.map_map]
    refine List.map_congr_left fun g _ => ?_
    simp only [Function.comp]
    split <;> rfl
  have hnd : ((renF m n f fs).map Fe.name).Nodup := by rw [hnames]; exact h.names.sublist (List.filter_sublist.map _)
  -- each file of the new list lies where a file of the old one lay
  have hpre : ∀ g ∈ renF m n f fs, ∃ g0 ∈ fs, g.fb = g0.fb ∧ g.bv = g0.bv ∧ g.b = g0.b ∧ g.synced = g0.synced ∧ (g.name = n ∧ g0 = f ∨ g.name ≠ n ∧ g0 = g) := by
    intro g hg
    obtain ⟨g0, h0, hm0, hn0, _, hc0⟩ := renF_mem hg
    rcases hc0 with ⟨e0, e1, e2, e3, e4⟩ | ⟨e0, rfl⟩
    · exact ⟨f, hf, e1, e2, e3, e4, .inl ⟨by rw [hn0, e0], rfl⟩⟩
    · exact ⟨g, h0, rfl, rfl, rfl, rfl, .inr ⟨e0, rfl⟩⟩
  have hfn : ∀ g ∈ renF m n f fs, g.name ≠ n → g.name ≠ m ∧ g ∈ fs := by
    intro g hg hgn
    obtain ⟨g0, h0, hm0, hn0, _, hc0⟩ := renF_mem hg
    rcases hc0 with ⟨e0, _⟩ | ⟨e0, rfl⟩
    · exact absurd (hn0.trans e0) hgn
    · exact ⟨hm0, h0⟩
  refine ⟨⟨(ho p h.p_ne_r).trans h.self, ⟨c, hr2, fun g hg => ?_⟩, hnd, by rw [hborns]; exact h.borns.sublist (List.filter_sublist.map _), ?_, ?_, fun g hg => ?_, h.base.1, h.base.2.1, by rw [hsz]; exact h.base.2.2⟩, ⟨by rw [← hw2]; rfl, by rw [← hw2]; rfl, by rw [← hw2]; rfl, by omega, fun b _ hn => ho b (fun e => hn (.inr (.inl e))), ?_⟩⟩
  · obtain ⟨g0, h0, _, _, hb, _⟩ := renF_mem hg
    rw [hb]; exact hc g0 h0
  · refine List.pairwise_map.2 ?_
    refine (List.pairwise_map.1 hnd).imp_of_mem fun {a b} ha hb hab => ?_
    intro e
    obtain ⟨a0, ha0, ea, _, _, _, ca⟩ := hpre a ha
    obtain ⟨b0, hb0, eb, _, _, _, cb⟩ := hpre b hb
    have hee : a0 = b0 := fb_inj h.fbs ha0 hb0 (by rw [← ea, ← eb, e])
    rcases ca with ⟨an, xa⟩ | ⟨an, xa⟩ <;> rcases cb with ⟨bn, xb⟩ | ⟨bn, xb⟩
    · exact hab (an.trans bn.symm)
    · exact (hfn b hb bn).1 (by rw [← xb, ← hee, xa, hfm])
    · exact (hfn a ha an).1 (by rw [← xa, hee, xb, hfm])
    · exact hab (by rw [← xa, ← xb, hee])
  · intro a ha b hb x hx1 hx2
    obtain ⟨a0, ha0, _, ea, _, _, ca⟩ := hpre a ha
    obtain ⟨b0, hb0, _, eb, _, _, cb⟩ := hpre b hb
    have hee := h.rows a0 ha0 b0 hb0 x (by rw [← ea]; exact hx1) (by rw [← eb]; exact hx2)
    rcases ca with ⟨an, xa⟩ | ⟨an, xa⟩ <;> rcases cb with ⟨bn, xb⟩ | ⟨bn, xb⟩
    · exact an.trans bn.symm
    · exact absurd (by rw [← xb, ← hee, xa, hfm]) (hfn b hb bn).1
    · exact absurd (by rw [← xa, hee, xb, hfm]) (hfn a ha an).1
    · rw [← xa, ← xb]; exact hee
  · obtain ⟨g0, h0, e1, e2, e3, e4, _⟩ := hpre g hg
    have hfa := h.files g0 h0
    exact ⟨by rw [e1, e2, e4]; exact (ho _ (h.fb_ne h0).2).trans hfa.cell, by rw [e2, e3]; exact hfa.row.keep (fun b hb => ho b (h.row_ne h0 hb).2.1), by rw [e1]; exact hfa.base, by rw [e3, e4]; exact hfa.sync⟩
  · rintro b (rfl | rfl | ⟨g, hg, hb⟩)
    · exact .inl (.inl rfl)
    · exact .inl (.inr (.inl rfl))
    · obtain ⟨g0, h0, e1, e2, _, _, _⟩ := hpre g hg
      rw [e1, e2] at hb
      exact .inl (.inr (.inr ⟨g0, h0, hb⟩))
end
end Go.Proofs.YtpiedpdffkfhpaaDoor

/- disk.Rename onto a file that is there: the walk. -/
namespace Go.Proofs.YtpiedpdffkfhpaaDoor
open Go.RowKit Go.Gl Go.Wal

set_option maxRecDepth 100000 in
set_option maxHeartbeats 4000000 in
theorem rename_old {B : Nat} {w : World} {p r : Nat} {size used born : Int} {fs : List Fe} (h : DiskAt B w p r size used born fs) {m n : ByteArray} {f g : Fe} (hfo : fileOf m fs = some f) (hgo : fileOf n fs = some g) (hmn : m ≠ n) (hn : NameOk n) (hgl : g.b.length ≤ 1073741824) (hu : 0 ≤ used) (hu2 : used ≤ 1073741824) :
    Calls Tryd.prog 33 #[.pointer (some ⟨p, 0, none⟩), .string m, .string n] w fun e w' => e = .returned (.int .i64 0) ∧ ∃ fs', DiskAt B w' p r size (used - g.b.length) born fs' ∧ Sep (Foot p r fs) w w' (Foot p r fs') ∧ vw fs' = renV m n f.b f.synced (vw fs) := by
  have H := Lib.hid h
  obtain ⟨hm, hfm⟩ := fileOf_some hfo
  obtain ⟨hgm, hgn⟩ := fileOf_some hgo
  have hlk1 : (Instr.lookup 50 (.map (some r)) (.string m) false).run Tryd.prog w = .ok (.pointer (some ⟨f.fb, 0, none⟩)) w := by
    have := h.lookup m
    simpa only [fileVal, hfo] using this
  have hlk2 : (Instr.lookup 50 (.map (some r)) (.string n) false).run Tryd.prog w = .ok (.pointer (some ⟨g.fb, 0, none⟩)) w := by
    have := h.lookup n
    simpa only [fileVal, hgo] using this
  obtain ⟨c0, c1, c2, c3⟩ := h.cells
  have lp := lt_of_getElem? h.self
  have hga := h.files g hgm
  obtain ⟨ba, bc, hbv⟩ := hga.row.slice
  have z0 : w.cell? ⟨g.fb, 0, none⟩ = some (.slice ba g.b.length bc) := by simp [World.cell?, hga.cell, hbv, bcells_len]
  have lg := lt_of_getElem? hga.cell
  have ff : ∀ i, w.frozen? ⟨p, i, none⟩ = false := fun i => by simp [World.frozen?, h.self]
  have hcl := Grow.cells (w := w)
  have hgd : Grow w w.drew := Grow.drew w
  have hw1 : IntKind.i64.wrap (used - (g.b.length : Int)) = used - (g.b.length : Int) := IntWalk.i64_in _ (by omega)
  obtain ⟨hd2', hs2'⟩ := (h.grow hgd).setUsed (used - g.b.length)
  obtain ⟨w2, hw2⟩ : ∃ x, x = (w.setCell ⟨p, 1, none⟩ (.int .i64 (used - g.b.length))).drew := ⟨_, rfl⟩
  have hd2 : DiskAt B w2 p r size (used - g.b.length) born fs := by rw [hw2]; exact hd2'
  have hs2 : Sep (Foot p r fs) w.drew w2 (Foot p r fs) := by rw [hw2]; exact hs2'
  clear hd2' hs2'
  obtain ⟨ck, hmap, hck⟩ := hd2.map
  have hkeys : ((fs.map Fe.ent).map Ent.key).Nodup := by have := hd2.names; rw [List.map_map]; exact this
  have hupd := run_mapUpdate_old keyOkS Tryd.underlying50 hmap hkeys n (.pointer (some ⟨f.fb, 0, none⟩)) ⟨g.ent, List.mem_map.2 ⟨g, hgm, rfl⟩, hgn.symm⟩
  have hmap2 : MapAt (setO w2 r (.map ((putV n (.pointer (some ⟨f.fb, 0, none⟩)) (fs.map Fe.ent)).map (Ent.raw Value.string)).toArray ck)) r Value.string (putV n (.pointer (some ⟨f.fb, 0, none⟩)) (fs.map Fe.ent)) ck := by
    unfold MapAt
    rw [setO_same (lt_of_getElem? hmap)]
  have hkeys2 : ((putV n (.pointer (some ⟨f.fb, 0, none⟩)) (fs.map Fe.ent)).map Ent.key).Nodup := by
    have : (putV n (.pointer (some ⟨f.fb, 0, none⟩)) (fs.map Fe.ent)).map Ent.key = (fs.map Fe.ent).map Ent.key := by
      unfold putV
      rw [List.map_map]
      refine List.map_congr_left fun e _ => ?_
      simp only [Function.comp]
      split <;> rfl
    rw [this]; exact hkeys
  have hdel := run_delete (ty := 0) (kt' := 9) keyOkS Tryd.underlying50 hmap2 hkeys2 m
  rw [← ent_ren m n f fs hmn] at hdel
  obtain ⟨hd3, hs3⟩ := hd2.ren hm hfm hmn hmap hck
  have hsame : setO (setO w2 r (.map ((putV n (.pointer (some ⟨f.fb, 0, none⟩)) (fs.map Fe.ent)).map (Ent.raw Value.string)).toArray ck)) r (.map (((renF m n f fs).map Fe.ent).map (Ent.raw Value.string)).toArray ck) = setO w2 r (.map (((renF m n f fs).map Fe.ent).map (Ent.raw Value.string)).toArray ck) := by
    unfold setO
    simp
  rw [hsame] at hdel
  have hself2 : (setO w2 r (.map ((putV n (.pointer (some ⟨f.fb, 0, none⟩)) (fs.map Fe.ent)).map (Ent.raw Value.string)).toArray ck)).heap[p]? = w2.heap[p]? := setO_other hd2.p_ne_r
  have e3' : (setO w2 r (.map ((putV n (.pointer (some ⟨f.fb, 0, none⟩)) (fs.map Fe.ent)).map (Ent.raw Value.string)).toArray ck)).cell? ⟨p, 3, none⟩ = some (.map (some r)) := by simp [World.cell?, hself2, hd2.self]
  have lp3 := lt_of_getElem? (hself2.trans hd2.self)
  obtain ⟨_, _, _, e3⟩ := hd2.cells
  have lp2 := lt_of_getElem? hd2.self
  have Hpost : Hid (∃ fs', DiskAt B (setO w2 r (.map (((renF m n f fs).map Fe.ent).map (Ent.raw Value.string)).toArray ck)) p r size (used - g.b.length) born fs' ∧ Sep (Foot p r fs) w (setO w2 r (.map (((renF m n f fs).map Fe.ent).map (Ent.raw Value.string)).toArray ck)) (Foot p r fs') ∧ vw fs' = renV m n f.b f.synced (vw fs)) := Lib.hid ⟨_, hd3, ((Sep.ofGrow hgd).trans hs2).trans hs3, vw_ren m n f fs⟩
  generalize hw3 : setO w2 r (.map ((putV n (.pointer (some ⟨f.fb, 0, none⟩)) (fs.map Fe.ent)).map (Ent.raw Value.string)).toArray ck) = w3 at *
  generalize hw4 : setO w2 r (.map (((renF m n f fs).map Fe.ent).map (Ent.raw Value.string)).toArray ck) = w4 at *
  have Hw2 := Lib.hid hw2
  clear hw2 hw3 hw4 hd2 hs2 hd3 hs3 hmap hck hgd hga hbv h hm hgm hfo hgo hfm hgn c0 c2 hkeys hkeys2 hmap2 hsame hself2
  have hne : (m == n) = false := by
    cases hb : (m == n) with
    | false => rfl
    | true => exact absurd ((Go.MapKept.bytes_beq _ _).1 hb) hmn
  have hne2 : (m.toList == n.toList) = false := by
    cases hb : (m.toList == n.toList) with
    | false => rfl
    | true => exact absurd (ByteArray.ext (by simpa [ByteArray.toList_eq] using hb)) hmn
  go_enter Tryd.func33, Tryd.ntmps33
  go_wp2_with ((with_reducible refine (name_ok hn _).mono ?_); rintro e w1 ⟨rfl, hw⟩; have hw' := hw.symm; subst hw'; clear hw)
  refine wp_region_last (fun W => Below w.heap.size w W) [(0, false), (1, false), (2, false), (3, false), (4, false), (5, false), (6, false), (7, false), (8, false), (9, false), (10, false), (11, false)] 12 (by kernel_rfl) (by kernel_rfl) (fun c a d v w h => by cases d <;> exact h) (Grow.drew _) ?_
  simp only [arrange, nth]
  repeat (first | (refine wpPi_quiet (v := ?_) (by rfl) (fun W hW => ?_) ?_; rotate_left; (obtain hW := hW; go_simp; with_reducible rfl); simp only [Act.put, List.setIfInBounds_toArray, List.set_cons_zero, List.set_cons_succ]) | (refine wpPi_off (by rfl) ?_; simp only [Act.put, List.setIfInBounds_toArray, List.set_cons_zero, List.set_cons_succ]))
  refine wpPi_nil ?_
  refine lastQ_act (by rfl) (fun K hK => ?_)
  go_simp
  refine hK _ ((w.setCell ⟨p, 1, none⟩ (.int .i64 (used - g.b.length))).drew) ?_
  clear hK K hcl
  try simp only [Act.put, List.setIfInBounds_toArray, List.set_cons_zero, List.set_cons_succ]
  rw [← Hw2.out]
  go_wp2
  go_ret
  exact ⟨rfl, Hpost.out⟩
end Go.Proofs.YtpiedpdffkfhpaaDoor

/- disk.List: the names, in order; over the contracts of the sort and of strings.HasPrefix. -/
namespace Go.Proofs.YtpiedpdffkfhpaaDoor
open Go.RowKit Go.Gl Go.Wal Go.Sort

/-- What the sort is asked. -/
def SortsS : Prop := ∀ (w : World) (g cap : Nat) (ss : List (List UInt8)) (cur : Array Value), w.heap[g]? = some (.cells cur 9 (0, 0)) → cur.toList.take ss.length = ss.map encStr → ss.length < 1000000000 →
  Calls Tryd.prog 43 #[.slice (some ⟨g, 0, none⟩) ss.length cap] w fun e w' => e = .returned (.tuple #[]) ∧ ∃ n os, w' = grow (putRow encStr (Sort.ahead w n) g 0 (ss.mergeSort fun x y => decide (x ≤ y)).toArray) os
def SortsSNone : Prop := ∀ (w : World), Calls Tryd.prog 43 #[.slice none 0 0] w fun e w' => e = .returned (.tuple #[]) ∧ w' = w
def HasP : Prop := ∀ (s p : ByteArray) (w : World), Calls Tryd.prog 42 #[.string s, .string p] w fun e w' => e = .returned (.bool (Lib.hasPrefix s.data.toList p.data.toList)) ∧ w' = w

theorem sortsS : SortsS := fun w g cap ss cur hb ht hl => Any.slices_Sort_string Tryd.sortS g 0 cap ss w (holds_of_block hb ht) (lt_of_getElem? hb) (by omega)
theorem sortsSNone : SortsSNone := fun w => Any.slices_Sort_string_none Tryd.sortS none 0 w
theorem hasP : HasP := fun s p w => Any.strings_HasPrefix Tryd.hasP s p w

theorem perm_filter_ne {κ : Type} : ∀ {l : List (Ent κ)} {x : Ent κ}, (l.map Ent.born).Nodup → x ∈ l → l.Perm (x :: (l.filter fun e => decide (e.born ≠ x.born)))
  | y :: l, x, hn, h => by
    simp only [List.map_cons, List.nodup_cons, List.mem_map, not_exists, not_and] at hn
    by_cases hyx : y.born = x.born
    · have hxy : x = y := by
        rcases List.mem_cons.1 h with h | h
        · exact h
        · exact absurd hyx.symm (hn.1 x h)
      subst hxy
      rw [List.filter_cons_of_neg (by simp)]
      rw [List.filter_eq_self.2 fun e he => by simpa using fun h1 => hn.1 e he h1]
    · have hx : x ∈ l := by
        rcases List.mem_cons.1 h with h | h
        · exact absurd (by rw [h]) hyx
        · exact h
      rw [List.filter_cons_of_pos (by simpa using hyx)]
      exact ((perm_filter_ne hn.2 hx).cons y).trans (List.Perm.swap x y _)

/-- The names as lists of bytes, those that are asked for. -/
def pick (keep : ByteArray → Bool) (l : List (Ent ByteArray)) : List (List UInt8) := (l.filter fun e => keep e.key).map fun e => e.key.data.toList

def ListInv (w : World) (r : Nat) (keep : ByteArray → Bool) (l : List (Ent ByteArray)) (c : Nat) (lv : Value) (wr : World) : Prop :=
  ∃ (seen : Array Nat) (c0 : Nat) (done : List (List UInt8)) (la : Option Addr) (ln lc : Nat), lv = .slice la ln lc ∧ wr.heap[w.heap.size]? = some (.mapIter (some r) c seen c0) ∧ c ≤ c0 ∧ wr.ownsRow w.heap.size 9 1 (.slice la ln lc) done.length (done.map encStr) ∧ (done ++ pick keep (unmet seen l)).Perm (pick keep l) ∧ Grow w wr

theorem encStr_data (s : ByteArray) : encStr s.data.toList = .string s := by
  obtain ⟨a⟩ := s
  simp [encStr]

def ListPost (w : World) (names : List (List UInt8)) (e : Ending) (w' : World) : Prop :=
  ∃ v, e = .returned v ∧ w'.ownsRow w.heap.size 9 1 v names.length ((names.mergeSort fun x y => decide (x ≤ y)).map encStr) ∧ Grow w w'

theorem listClo_any (hP : HasP) (s p : ByteArray) {w : World} {bx : Nat} (hb : w.heap[bx]? = some (.cells #[.string s] 9 (0, 0))) :
    Calls Tryd.prog 41 #[.string p, .pointer (some ⟨bx, 0, none⟩)] w fun e w' => e = .returned (.bool (Lib.hasPrefix s.data.toList p.data.toList)) ∧ w' = w := by
  have b0 : w.cell? ⟨bx, 0, none⟩ = some (.string s) := by simp [World.cell?, hb]
  have lb := lt_of_getElem? hb
  have Hc := Lib.hid (hP s p w)
  go_enter Tryd.func41, Tryd.ntmps41
  go_wp2_with fail
  (with_reducible refine Hc.out.mono ?_)
  rintro e w1 ⟨rfl, hw⟩
  have hw' := hw.symm
  subst hw'
  clear hw
  go_wp2
  go_ret
  exact ⟨rfl, rfl⟩
end Go.Proofs.YtpiedpdffkfhpaaDoor

/- disk.List with no prefix, with one. -/
namespace Go.Proofs.YtpiedpdffkfhpaaDoor
open Go.RowKit Go.Gl Go.Wal Go.Sort

set_option maxRecDepth 100000 in
set_option maxHeartbeats 4000000 in
theorem list_all {B : Nat} {w : World} {p r : Nat} {size used born : Int} {fs : List Fe} (h : DiskAt B w p r size used born fs) (hmax : fs.length < 1000000000) :
    Calls Tryd.prog 31 #[.pointer (some ⟨p, 0, none⟩), .slice none 0 0] w (ListPost w (pick (fun _ => true) (fs.map Fe.ent))) := by
  obtain ⟨c, hm, hborn⟩ := h.map
  have hrange := run_range_map (P := Tryd.prog) w 50 9 64 r _ c Tryd.underlying50 hm
  obtain ⟨c0, c1, c2, c3⟩ := h.cells
  have lp := lt_of_getElem? h.self
  have hnb : ((fs.map Fe.ent).map Ent.born).Nodup := by rw [List.map_map]; exact h.borns
  have hold : ∀ e ∈ fs.map Fe.ent, e.born < c := fun e he => by obtain ⟨x, hx, rfl⟩ := List.mem_map.1 he; exact hborn x hx
  have hrs : w.heap.size ≠ r := by have := lt_of_getElem? hm; omega
  have hlen : (fs.map Fe.ent).length < 1000000000 := by simpa using hmax
  generalize fs.map Fe.ent = l at *
  have Hm := Lib.hid hm
  have Hnb := Lib.hid hnb
  have Hold := Lib.hid hold
  clear h hborn hnb hold hm
  go_enter Tryd.func31, Tryd.ntmps31
  go_wp2
  clear hrange
  go_loopw [5] (fun lv wr => ListInv w r (fun _ => true) l c lv wr) (fun _ wr => iterLeft r w.heap.size wr)
  case atStart =>
    refine ⟨#[], c, [], none, 0, 0, rfl, heap_alloc_new w _, Nat.le_refl _, World.ownsRow_nil _ _ _ _, ?_, by (repeat (first | exact Below.refl _ _ | assumption | refine Below.drew ?_ | refine bDrewN ?_ | refine Below.setCell ?_ (by first | omega | (simp <;> omega)) _ | refine Below.alloc ?_ (by first | omega | (simp <;> omega)) _))⟩
    rw [show unmet #[] l = l from List.filter_eq_self.2 (by simp)]; simp
  case round =>
    obtain ⟨seen, c0', done, la, ln, lc, rfl, hit, hcc, hown, hperm, hg⟩ := hrel
    have hmr : MapAt wr r Value.string l c := hg.heap Hm.out
    have hleft := iterLeft_eq hit hmr
    rcases run_next (P := Tryd.prog) (enc := Value.string) (l := l) 0 hit hmr Hold.out hcc hrs Hnb.out with ⟨h1, h2⟩ | ⟨e, w1, he, hrun, hent, hit1, hgr, hsz⟩
    · rw [h1] at hperm
      have Hp : Hid (done.Perm (pick (fun _ => true) l)) := Lib.hid (by simpa [pick] using hperm)
      have Hown := Lib.hid hown
      have Hg := Lib.hid hg
      have hlen2 : done.length < 1000000000 := by
        have := Hp.out.length_eq
        have h3 : (pick (fun _ => true) l).length ≤ l.length := by unfold pick; rw [List.length_map]; exact List.length_filter_le _ _
        omega
      clear h1 hleft hmr hit hown hperm hg
      go_wp2_with fail
      have hms : done.mergeSort (fun x y => decide (x ≤ y)) = (pick (fun _ => true) l).mergeSort (fun x y => decide (x ≤ y)) := mergeSort_of_perm Hp.out
      have hrow := Hown.out
      rcases hrow.2 with ⟨e1, e2⟩ | ⟨g, cap, cur, e1, hge, e2, e3, e4, e5, e6⟩
      · cases e1
        have hd : done = [] := List.eq_nil_of_length_eq_zero e2
        subst hd
        have hN0 : Calls Tryd.prog 43 #[.slice none 0 0] wr _ := sortsSNone wr
        (with_reducible refine hN0.mono ?_)
        rintro e w' ⟨rfl, rfl⟩
        go_wp2
        go_ret
        refine ⟨_, rfl, ?_, Hg.out⟩
        rw [← hms, ← Hp.out.length_eq, List.mergeSort_nil]
        exact World.ownsRow_nil _ _ _ _
      · cases e1
        have hS := sortsS wr g lc done cur e2 (by simpa using e6) hlen2
        have Hfin : Hid (∀ n os, (grow (putRow encStr (Sort.ahead wr n) g 0 (done.mergeSort fun x y => decide (x ≤ y)).toArray) os).ownsRow w.heap.size 9 1 (.slice (some ⟨g, 0, none⟩) done.length lc) done.length ((done.mergeSort fun x y => decide (x ≤ y)).map encStr)) := Lib.hid (fun n os => ownsRow_sorted (List.length_mergeSort _) hge e2 e3 e4 e5)
        have HS := Lib.hid hS
        have Hge := Lib.hid hge
        clear hrow e2 hge e3 e4 e5 e6 hS
        (with_reducible refine HS.out.mono ?_)
        rintro e w' ⟨rfl, nn, os, hw'⟩
        have Hw' := Lib.hid hw'
        clear hw'
        go_wp2
        go_ret
        refine ⟨_, rfl, ?_, ?_⟩
        · rw [← hms, ← Hp.out.length_eq, Hw'.out]
          exact Hfin.out nn os
        · rw [Hw'.out]
          exact Hg.out.grown (grownBy_sorted _) Hg.out.size (fun k hk => by cases hk; exact Hge.out)
    · have hpm := perm_filter_ne (unmet_nodup Hnb.out) he
      rw [← unmet_push] at hpm
      have hlen2 : done.length < 1000000000 := by
        have := hperm.length_eq
        have h3 : (pick (fun _ => true) l).length ≤ l.length := by unfold pick; rw [List.length_map]; exact List.length_filter_le _ _
        simp at this
        omega
      have hkeyE : encStr e.key.data.toList = .string e.key := encStr_data _
      have hpk : pick (fun _ => true) (e :: unmet (seen.push e.born) l) = (if (fun _ => true) e.key = true then [e.key.data.toList] else []) ++ pick (fun _ => true) (unmet (seen.push e.born) l) := by
        unfold pick
        rw [List.filter_cons]
        split <;> simp
      have hpp : (pick (fun _ => true) (unmet seen l)).Perm (pick (fun _ => true) (e :: unmet (seen.push e.born) l)) := by
        unfold pick
        exact (hpm.filter _).map _
      rw [hpk] at hpp
      generalize hek : e.key = key at *
      have hown1 : w1.ownsRow w.heap.size 9 1 (.slice la ln lc) done.length (done.map encStr) := hown.kept hgr (.inr fun e1 => by
        rcases hown.2 with ⟨e2, _⟩ | ⟨g, cap, cur, e2, _, e3, _⟩
        · rw [e2] at e1; cases e1
        · rw [e2] at e1
          have e4 : g = w.heap.size := Option.some.inj e1
          rw [e4, hit] at e3; cases e3)
      have hsw : w.heap.size < w1.heap.size := lt_of_getElem? hit1
      have hg1 : Grow w w1 := hg.grown hgr hg.size (fun k hk => by cases hk; exact Nat.le_refl _)
      have hga : Grow w1 (w1.alloc (.cells #[.string key] 9)) := Grow.alloc _ _
      have hbx : (w1.alloc (.cells #[.string key] 9)).heap[w1.heap.size]? = some (.cells #[.string key] 9 (0, 0)) := heap_alloc_new _ _
      have hown2 := hown1.alloc (.cells #[.string key] 9)
      have hit2 := hga.heap hit1
      have hg2 := hg1.trans hga
      have hmeas : ∀ W, W.heap[w.heap.size]? = some (.mapIter (some r) c (seen.push e.born) c) → Grow w W → iterLeft r w.heap.size W < iterLeft r w.heap.size wr := fun W hW hgW => by
        rw [iterLeft_eq hW (hgW.heap Hm.out : MapAt W r Value.string l c), hleft, unmet_push]
        refine Nat.lt_of_le_of_ne (List.length_filter_le _ _) fun h4 => ?_
        have := (List.length_filter_eq_length_iff.1 h4) e he
        simp at this
      cases hkp : (fun _ => true) key with
      | true =>
        rw [hkp, if_pos rfl] at hpp
        obtain ⟨i0, hi0, hz0, hz1, hz2⟩ := info_parts Tryd.infoStr
        have hgb : Grow (w1.alloc (.cells #[.string key] 9)) ((w1.alloc (.cells #[.string key] 9)).alloc (.cells #[.string key] 9)) := Grow.alloc _ _
        have hnw := heap_alloc_new (w1.alloc (.cells #[.string key] 9)) (.cells #[.string key] 9)
        rw [show (w1.alloc (.cells #[.string key] 9)).heap.size = w1.heap.size + 1 by simp] at hnw
        obtain ⟨g3, cap3, w3, hrun3, hown3, hgr3, hloc3, hlt3⟩ := run_append_lies (P := Tryd.prog) ((w1.alloc (.cells #[.string key] 9)).alloc (.cells #[.string key] 9)) 69 69 w.heap.size 9 i0 _ 1 16 Tryd.underlying69 hi0 hz0 hz1 hz2 rfl (by decide) _ _ _ (hown2.alloc _)
          ⟨w1.heap.size + 1, 0, none⟩ 1 1 [.string key] rfl (fun j u hu => World.news_of_block hnw j u (by simpa using hu)) (fun u hu => by rw [List.mem_singleton.1 hu]; rfl) (by decide) (by unfold maxLen; omega) (by omega) (by simp; omega) _ rfl
        have hg3 : Grow w w3 := (hg2.trans hgb).grown hgr3 (by have := (hg2.trans hgb).size; omega) (fun k hk => (hown2.lt k hk).1)
        have hit3 : w3.heap[w.heap.size]? = some (.mapIter (some r) c (seen.push e.born) c) := by
          rw [hgr3.block w.heap.size (by simp; omega) (fun e1 => ?_)]
          · exact hgb.heap hit2
          · rcases hown2.2 with ⟨e2, _⟩ | ⟨g, cap, cur, e2, _, e3, _⟩
            · rw [e2] at e1; cases e1
            · rw [e2] at e1
              have e4 : w.heap.size = g := Option.some.inj e1
              rw [← e4, hit2] at e3; cases e3
        have Hrel : Hid (ListInv w r (fun _ => true) l c (.slice (some ⟨g3, 0, none⟩) (done.length + 1) cap3) w3) := by
          refine Lib.hid ⟨seen.push e.born, c, done ++ [key.data.toList], _, _, _, rfl, hit3, Nat.le_refl _, ?_, ?_, hg3⟩
          · rw [List.length_append, List.map_append, List.map_singleton, hkeyE]; exact hown3
          · refine List.Perm.trans ?_ hperm
            rw [List.append_assoc]
            exact List.Perm.append_left _ hpp.symm
        have Hmeas := Lib.hid (hmeas w3 hit3 hg3)
        have Hrun3 := Lib.hid hrun3
        clear hleft hmr hit hit1 hgr he hperm hg hpm hown hek hown1 hg1 hi0 hz0 hz1 hz2 hnw hrun3 hown3 hgr3 hloc3 hlt3 hg2 hit2 hg3 hit3 hmeas hpp hpk hgb hown2 hkp hsz hbx
        go_wp2_with (at_builtin; refine wpList_append rfl rfl rfl rfl Hrun3.out ?_)
        go_roundw
        case rel => exact Hrel.out
        case measure => exact Hmeas.out
      | false =>
        cases hkp

set_option maxRecDepth 100000 in
set_option maxHeartbeats 4000000 in
theorem list_pre {B : Nat} {w : World} {p r : Nat} {size used born : Int} {fs : List Fe} (h : DiskAt B w p r size used born fs) (hmax : fs.length < 1000000000) (pf : ByteArray) {qb : Nat} (hq : w.heap[qb]? = some (.cells #[.string pf] 9 (0, 0))) :
    Calls Tryd.prog 31 #[.pointer (some ⟨p, 0, none⟩), .slice (some ⟨qb, 0, none⟩) 1 1] w (ListPost w (pick (fun s => Lib.hasPrefix s.data.toList pf.data.toList) (fs.map Fe.ent))) := by
  obtain ⟨c, hm, hborn⟩ := h.map
  have hrange := run_range_map (P := Tryd.prog) w 50 9 64 r _ c Tryd.underlying50 hm
  obtain ⟨c0, c1, c2, c3⟩ := h.cells
  have lp := lt_of_getElem? h.self
  have hnb : ((fs.map Fe.ent).map Ent.born).Nodup := by rw [List.map_map]; exact h.borns
  have hold : ∀ e ∈ fs.map Fe.ent, e.born < c := fun e he => by obtain ⟨x, hx, rfl⟩ := List.mem_map.1 he; exact hborn x hx
  have hrs : w.heap.size ≠ r := by have := lt_of_getElem? hm; omega
  have hlen : (fs.map Fe.ent).length < 1000000000 := by simpa using hmax
  generalize fs.map Fe.ent = l at *
  have Hm := Lib.hid hm
  have Hnb := Lib.hid hnb
  have Hold := Lib.hid hold
  have Hq := Lib.hid hq
  clear hq
  clear h hborn hnb hold hm
  go_enter Tryd.func31, Tryd.ntmps31
  go_wp2
  clear hrange
  go_loopw [5] (fun lv wr => ListInv w r (fun s => Lib.hasPrefix s.data.toList pf.data.toList) l c lv wr) (fun _ wr => iterLeft r w.heap.size wr)
  case atStart =>
    refine ⟨#[], c, [], none, 0, 0, rfl, heap_alloc_new w _, Nat.le_refl _, World.ownsRow_nil _ _ _ _, ?_, by (repeat (first | exact Below.refl _ _ | assumption | refine Below.drew ?_ | refine bDrewN ?_ | refine Below.setCell ?_ (by first | omega | (simp <;> omega)) _ | refine Below.alloc ?_ (by first | omega | (simp <;> omega)) _))⟩
    rw [show unmet #[] l = l from List.filter_eq_self.2 (by simp)]; simp
  case round =>
    obtain ⟨seen, c0', done, la, ln, lc, rfl, hit, hcc, hown, hperm, hg⟩ := hrel
    have hmr : MapAt wr r Value.string l c := hg.heap Hm.out
    have hleft := iterLeft_eq hit hmr
    rcases run_next (P := Tryd.prog) (enc := Value.string) (l := l) 0 hit hmr Hold.out hcc hrs Hnb.out with ⟨h1, h2⟩ | ⟨e, w1, he, hrun, hent, hit1, hgr, hsz⟩
    · rw [h1] at hperm
      have Hp : Hid (done.Perm (pick (fun s => Lib.hasPrefix s.data.toList pf.data.toList) l)) := Lib.hid (by simpa [pick] using hperm)
      have Hown := Lib.hid hown
      have Hg := Lib.hid hg
      have hlen2 : done.length < 1000000000 := by
        have := Hp.out.length_eq
        have h3 : (pick (fun s => Lib.hasPrefix s.data.toList pf.data.toList) l).length ≤ l.length := by unfold pick; rw [List.length_map]; exact List.length_filter_le _ _
        omega
      clear h1 hleft hmr hit hown hperm hg
      go_wp2_with fail
      have hms : done.mergeSort (fun x y => decide (x ≤ y)) = (pick (fun s => Lib.hasPrefix s.data.toList pf.data.toList) l).mergeSort (fun x y => decide (x ≤ y)) := mergeSort_of_perm Hp.out
      have hrow := Hown.out
      rcases hrow.2 with ⟨e1, e2⟩ | ⟨g, cap, cur, e1, hge, e2, e3, e4, e5, e6⟩
      · cases e1
        have hd : done = [] := List.eq_nil_of_length_eq_zero e2
        subst hd
        have hN0 : Calls Tryd.prog 43 #[.slice none 0 0] wr _ := sortsSNone wr
        (with_reducible refine hN0.mono ?_)
        rintro e w' ⟨rfl, rfl⟩
        go_wp2
        go_ret
        refine ⟨_, rfl, ?_, Hg.out⟩
        rw [← hms, ← Hp.out.length_eq, List.mergeSort_nil]
        exact World.ownsRow_nil _ _ _ _
      · cases e1
        have hS := sortsS wr g lc done cur e2 (by simpa using e6) hlen2
        have Hfin : Hid (∀ n os, (grow (putRow encStr (Sort.ahead wr n) g 0 (done.mergeSort fun x y => decide (x ≤ y)).toArray) os).ownsRow w.heap.size 9 1 (.slice (some ⟨g, 0, none⟩) done.length lc) done.length ((done.mergeSort fun x y => decide (x ≤ y)).map encStr)) := Lib.hid (fun n os => ownsRow_sorted (List.length_mergeSort _) hge e2 e3 e4 e5)
        have HS := Lib.hid hS
        have Hge := Lib.hid hge
        clear hrow e2 hge e3 e4 e5 e6 hS
        (with_reducible refine HS.out.mono ?_)
        rintro e w' ⟨rfl, nn, os, hw'⟩
        have Hw' := Lib.hid hw'
        clear hw'
        go_wp2
        go_ret
        refine ⟨_, rfl, ?_, ?_⟩
        · rw [← hms, ← Hp.out.length_eq, Hw'.out]
          exact Hfin.out nn os
        · rw [Hw'.out]
          exact Hg.out.grown (grownBy_sorted _) Hg.out.size (fun k hk => by cases hk; exact Hge.out)
    · have hpm := perm_filter_ne (unmet_nodup Hnb.out) he
      rw [← unmet_push] at hpm
      have hlen2 : done.length < 1000000000 := by
        have := hperm.length_eq
        have h3 : (pick (fun s => Lib.hasPrefix s.data.toList pf.data.toList) l).length ≤ l.length := by unfold pick; rw [List.length_map]; exact List.length_filter_le _ _
        simp at this
        omega
      have hkeyE : encStr e.key.data.toList = .string e.key := encStr_data _
      have hpk : pick (fun s => Lib.hasPrefix s.data.toList pf.data.toList) (e :: unmet (seen.push e.born) l) = (if (fun s => Lib.hasPrefix s.data.toList pf.data.toList) e.key = true then [e.key.data.toList] else []) ++ pick (fun s => Lib.hasPrefix s.data.toList pf.data.toList) (unmet (seen.push e.born) l) := by
        unfold pick
        rw [List.filter_cons]
        split <;> simp
      have hpp : (pick (fun s => Lib.hasPrefix s.data.toList pf.data.toList) (unmet seen l)).Perm (pick (fun s => Lib.hasPrefix s.data.toList pf.data.toList) (e :: unmet (seen.push e.born) l)) := by
        unfold pick
        exact (hpm.filter _).map _
      rw [hpk] at hpp
      generalize hek : e.key = key at *
      have hown1 : w1.ownsRow w.heap.size 9 1 (.slice la ln lc) done.length (done.map encStr) := hown.kept hgr (.inr fun e1 => by
        rcases hown.2 with ⟨e2, _⟩ | ⟨g, cap, cur, e2, _, e3, _⟩
        · rw [e2] at e1; cases e1
        · rw [e2] at e1
          have e4 : g = w.heap.size := Option.some.inj e1
          rw [e4, hit] at e3; cases e3)
      have hsw : w.heap.size < w1.heap.size := lt_of_getElem? hit1
      have hg1 : Grow w w1 := hg.grown hgr hg.size (fun k hk => by cases hk; exact Nat.le_refl _)
      have hga : Grow w1 (w1.alloc (.cells #[.string key] 9)) := Grow.alloc _ _
      have hbx : (w1.alloc (.cells #[.string key] 9)).heap[w1.heap.size]? = some (.cells #[.string key] 9 (0, 0)) := heap_alloc_new _ _
      have hown2 := hown1.alloc (.cells #[.string key] 9)
      have hit2 := hga.heap hit1
      have hg2 := hg1.trans hga
      have hmeas : ∀ W, W.heap[w.heap.size]? = some (.mapIter (some r) c (seen.push e.born) c) → Grow w W → iterLeft r w.heap.size W < iterLeft r w.heap.size wr := fun W hW hgW => by
        rw [iterLeft_eq hW (hgW.heap Hm.out : MapAt W r Value.string l c), hleft, unmet_push]
        refine Nat.lt_of_le_of_ne (List.length_filter_le _ _) fun h4 => ?_
        have := (List.length_filter_eq_length_iff.1 h4) e he
        simp at this
      have hcon := contains1 (hg2.heap Hq.out) (fn := 41) ⟨_, Tryd.func41, by kernel_rfl⟩ (listClo_any hasP key pf hbx) (enters_of Tryd.func41 (by kernel_rfl) rfl)
      have q0 := lt_of_getElem? Hq.out
      cases hkp : (fun s => Lib.hasPrefix s.data.toList pf.data.toList) key with
      | true =>
        have hkp0 := hkp
        rw [hkp, if_pos rfl] at hpp
        obtain ⟨i0, hi0, hz0, hz1, hz2⟩ := info_parts Tryd.infoStr
        have hgb : Grow (w1.alloc (.cells #[.string key] 9)) ((w1.alloc (.cells #[.string key] 9)).alloc (.cells #[.string key] 9)) := Grow.alloc _ _
        have hnw := heap_alloc_new (w1.alloc (.cells #[.string key] 9)) (.cells #[.string key] 9)
        rw [show (w1.alloc (.cells #[.string key] 9)).heap.size = w1.heap.size + 1 by simp] at hnw
        obtain ⟨g3, cap3, w3, hrun3, hown3, hgr3, hloc3, hlt3⟩ := run_append_lies (P := Tryd.prog) ((w1.alloc (.cells #[.string key] 9)).alloc (.cells #[.string key] 9)) 69 69 w.heap.size 9 i0 _ 1 16 Tryd.underlying69 hi0 hz0 hz1 hz2 rfl (by decide) _ _ _ (hown2.alloc _)
          ⟨w1.heap.size + 1, 0, none⟩ 1 1 [.string key] rfl (fun j u hu => World.news_of_block hnw j u (by simpa using hu)) (fun u hu => by rw [List.mem_singleton.1 hu]; rfl) (by decide) (by unfold maxLen; omega) (by omega) (by simp; omega) _ rfl
        have hg3 : Grow w w3 := (hg2.trans hgb).grown hgr3 (by have := (hg2.trans hgb).size; omega) (fun k hk => (hown2.lt k hk).1)
        have hit3 : w3.heap[w.heap.size]? = some (.mapIter (some r) c (seen.push e.born) c) := by
          rw [hgr3.block w.heap.size (by simp; omega) (fun e1 => ?_)]
          · exact hgb.heap hit2
          · rcases hown2.2 with ⟨e2, _⟩ | ⟨g, cap, cur, e2, _, e3, _⟩
            · rw [e2] at e1; cases e1
            · rw [e2] at e1
              have e4 : w.heap.size = g := Option.some.inj e1
              rw [← e4, hit2] at e3; cases e3
        have Hrel : Hid (ListInv w r (fun s => Lib.hasPrefix s.data.toList pf.data.toList) l c (.slice (some ⟨g3, 0, none⟩) (done.length + 1) cap3) w3) := by
          refine Lib.hid ⟨seen.push e.born, c, done ++ [key.data.toList], _, _, _, rfl, hit3, Nat.le_refl _, ?_, ?_, hg3⟩
          · rw [List.length_append, List.map_append, List.map_singleton, hkeyE]; exact hown3
          · refine List.Perm.trans ?_ hperm
            rw [List.append_assoc]
            exact List.Perm.append_left _ hpp.symm
        have Hmeas := Lib.hid (hmeas w3 hit3 hg3)
        have Hrun3 := Lib.hid hrun3
        clear hleft hmr hit hit1 hgr he hperm hg hpm hown hek hown1 hg1 hi0 hz0 hz1 hz2 hnw hrun3 hown3 hgr3 hloc3 hlt3 hg2 hit2 hg3 hit3 hmeas hpp hpk hgb hown2 hkp hsz hbx
        rw [show Lib.hasPrefix key.data.toList pf.data.toList = true from hkp0] at hcon
        have Hcon := Lib.hid hcon
        clear hcon hkp0
        go_wp2_with fail
        (with_reducible refine Hcon.out.mono ?_)
        rintro e5 w5 ⟨rfl, hw5⟩
        have hw5' := hw5.symm
        subst hw5'
        clear hw5
        go_wp2_with (at_builtin; refine wpList_append rfl rfl rfl rfl Hrun3.out ?_)
        go_roundw
        case rel => exact Hrel.out
        case measure => exact Hmeas.out
      | false =>
        have hkp0 := hkp
        rw [hkp, if_neg (by decide), List.nil_append] at hpp
        have Hrel : Hid (ListInv w r (fun s => Lib.hasPrefix s.data.toList pf.data.toList) l c (.slice la ln lc) (w1.alloc (.cells #[.string key] 9))) := Lib.hid ⟨seen.push e.born, c, done, _, _, _, rfl, hit2, Nat.le_refl _, hown2, (List.Perm.append_left _ hpp.symm).trans hperm, hg2⟩
        have Hmeas := Lib.hid (hmeas _ hit2 hg2)
        clear hleft hmr hit hit1 hgr he hperm hg hpm hown hek hown1 hg1 hg2 hit2 hmeas hpp hpk hown2 hkp hsz hbx
        rw [show Lib.hasPrefix key.data.toList pf.data.toList = false from hkp0] at hcon
        have Hcon := Lib.hid hcon
        clear hcon hkp0
        go_wp2_with fail
        (with_reducible refine Hcon.out.mono ?_)
        rintro e5 w5 ⟨rfl, hw5⟩
        have hw5' := hw5.symm
        subst hw5'
        clear hw5
        go_wp2
        go_roundw
        case rel => exact Hrel.out
        case measure => exact Hmeas.out
end Go.Proofs.YtpiedpdffkfhpaaDoor

/- disk.Crash. -/
namespace Go.Proofs.YtpiedpdffkfhpaaDoor
open Go.RowKit Go.Gl Go.Wal Go.Sort

/-- How many bytes there are. -/
def tot (V : Vw) : Nat := (V.map (fun e => e.2.1.length)).sum

/-- How many bytes of a file a crash keeps. -/
def keptD (picks : List Int) (i len syn : Nat) : Nat := match picks[i]? with
  | none => syn
  | some k => if 0 ≤ k then syn + (k % ((len - syn + 1 : Nat) : Int)).toNat else syn

def cutV (n : ByteArray) (k : Nat) (V : Vw) : Vw := V.map (fun e => if e.1 = n then (e.1, e.2.1.take k, k) else e)

def lookV (n : ByteArray) (V : Vw) : Option (List UInt8 × Nat) := (V.find? (fun e => decide (n = e.1))).map (·.2)

def crashV (picks : List Int) : Nat → List (List UInt8) → Vw → Vw
  | _, [], V => V
  | i, n :: ns, V => crashV picks (i + 1) ns (match lookV ⟨n.toArray⟩ V with | none => V | some (b, s) => cutV ⟨n.toArray⟩ (keptD picks i b.length s) V)

theorem keptD_le (picks : List Int) (i : Nat) {len syn : Nat} (h : syn ≤ len) : syn ≤ keptD picks i len syn ∧ keptD picks i len syn ≤ len := by
  unfold keptD
  split
  · omega
  · rename_i k _
    split
    · have h1 := Int.emod_nonneg k (b := ((len - syn + 1 : Nat) : Int)) (by omega)
      have h2 := Int.emod_lt_of_pos k (b := ((len - syn + 1 : Nat) : Int)) (by omega)
      omega
    · omega

theorem lookV_file (n : ByteArray) (fs : List Fe) : lookV n (vw fs) = (fileOf n fs).map (fun f => (f.b, f.synced)) := by
  unfold lookV fileOf vw
  induction fs with
  | nil => rfl
  | cons f fs ih =>
    simp only [List.map_cons, List.find?_cons]
    by_cases h : n = f.name
    · simp [h]
    · simp only [h, decide_false]
      exact ih

theorem vw_cut {fs : List Fe} (h : (fs.map Fe.name).Nodup) {f : Fe} (hf : f ∈ fs) (v : Value) (k : Nat) : vw (putF f.name v (f.b.take k) k fs) = cutV f.name k (vw fs) := by
  unfold cutV vw putF
  rw [List.map_map, List.map_map]
  refine List.map_congr_left fun g hg => ?_
  simp only [Function.comp]
  by_cases hn : g.name = f.name
  · have := name_inj h hg hf hn
    subst this
    simp
  · simp [hn]

theorem tot_cut {fs : List Fe} (h : (fs.map Fe.name).Nodup) {f : Fe} (hf : f ∈ fs) {k : Nat} (hk : k ≤ f.b.length) : tot (cutV f.name k (vw fs)) + (f.b.length - k) = tot (vw fs) := by
  induction fs with
  | nil => cases hf
  | cons g fs ih =>
    simp only [List.map_cons, List.nodup_cons, List.mem_map, not_exists, not_and] at h
    rcases List.mem_cons.1 hf with rfl | hf'
    · have hrest : cutV f.name k (vw fs) = vw fs := by
        unfold cutV
        refine (List.map_congr_left fun e he => ?_).trans (List.map_id _)
        obtain ⟨x, hx, rfl⟩ := List.mem_map.1 he
        simp [h.1 x hx]
      have e1 : cutV f.name k (vw (f :: fs)) = (f.name, f.b.take k, k) :: vw fs := by
        show (if f.name = f.name then _ else _) :: cutV f.name k (vw fs) = _
        rw [hrest, if_pos rfl]
      rw [e1]
      simp [tot, vw]
      omega
    · have hne : ¬ g.name = f.name := fun e => h.1 f hf' e.symm
      have := ih h.2 hf'
      have e1 : cutV f.name k (vw (g :: fs)) = (g.name, g.b, g.synced) :: cutV f.name k (vw fs) := by
        show (if g.name = f.name then _ else _) :: cutV f.name k (vw fs) = _
        rw [if_neg hne]
      rw [e1]
      simp only [tot, vw, List.map_cons, List.sum_cons] at this ⊢
      omega

/-- A row cut short. -/
theorem ownB_cut {B : Nat} {w : World} {a : Option Addr} {c k : Nat} {l : List UInt8} (h : OwnB B w (.slice a l.length c) l) (hk : k ≤ l.length) : OwnB B w (.slice a k k) (l.take k) := by
  have hl : (bcells (l.take k)).length = k := by rw [bcells_len]; simp; omega
  rcases h with ⟨h1, h2⟩ | ⟨g, cap, cur, h1, hB, hg, hlc, hcc, hm, ht⟩
  · have hl0 : l = [] := List.eq_nil_of_length_eq_zero (by rw [← bcells_len, h2]; rfl)
    subst hl0
    simp only [Value.slice.injEq] at h1
    obtain ⟨rfl, _, rfl⟩ := h1
    have : k = 0 := by simpa using hk
    subst this
    exact .inl ⟨rfl, rfl⟩
  · simp only [Value.slice.injEq] at h1
    obtain ⟨rfl, _, rfl⟩ := h1
    rw [bcells_len] at hlc ht
    refine .inr ⟨g, k, cur, by rw [hl], hB, hg, by rw [hl]; exact Nat.le_refl _, by omega, by omega, ?_⟩
    rw [hl]
    have : cur.toList.take k = (cur.toList.take l.length).take k := by rw [List.take_take, Nat.min_eq_left hk]
    rw [this, ht]
    simp [bcells, List.map_take]
end Go.Proofs.YtpiedpdffkfhpaaDoor

/- disk.Crash: the walk. -/
namespace Go.Proofs.YtpiedpdffkfhpaaDoor
open Go.RowKit Go.Gl Go.Wal Go.Sort

/-- The value reads as the numbers ks. -/
def Iv (w : World) (v : Value) (ks : List Int) : Prop :=
  ∃ a c, v = .slice a ks.length c ∧ ks.length ≤ maxLen ∧ (ks = [] ∨ ∃ b o, a = some ⟨b, o, none⟩ ∧ b < w.heap.size ∧ ∀ (j : Nat) (k : Int), ks[j]? = some k → w.cell? ⟨b, o + j, none⟩ = some (.int .i64 k))

/-- No block of the numbers is a block of the disk. -/
def IvFree (F : Nat → Prop) (v : Value) : Prop := ∀ b, v.ownBlock = some b → ¬ F b

theorem Iv.sep {w w' : World} {v : Value} {ks : List Int} {F F' : Nat → Prop} (h : Iv w v ks) (hs : Sep F w w' F') (hf : ks ≠ [] → IvFree F v) : Iv w' v ks := by
  obtain ⟨a, c, rfl, hm, h⟩ := h
  refine ⟨a, c, rfl, hm, ?_⟩
  by_cases hk : ks = []
  · exact .inl hk
  · rcases h with h | ⟨b, o, rfl, hb, hc⟩
    · exact absurd h hk
    · have hfr := hs.free hb (hf hk b rfl)
      exact .inr ⟨b, o, rfl, hfr.2.1, fun j k hj => by rw [← hc j k hj]; simp only [World.cell?, hfr.1]⟩

theorem names_cut (n : ByteArray) (k : Nat) (V : Vw) : (cutV n k V).map (·.1) = V.map (·.1) := by
  unfold cutV
  rw [List.map_map]
  refine List.map_congr_left fun e _ => ?_
  simp only [Function.comp]
  split <;> rfl

structure CrI (B : Nat) (w : World) (p r : Nat) (size born : Int) (V0 : Vw) (F : Nat → Prop) (picks : List Int) (ns : List (List UInt8)) (gN : Nat) (cur : Array Value) (i : Nat) (fs' : List Fe) (wr : World) : Prop where
  disk : DiskAt B wr p r size (tot (vw fs')) born fs'
  run : crashV picks 0 ns V0 = crashV picks i (ns.drop i) (vw fs')
  names : (vw fs').map (·.1) = V0.map (·.1)
  sep : Sep F w wr (Foot p r fs')
  row : wr.heap[gN]? = some (.cells cur 9 (0, 0))
  room : tot (vw fs') ≤ 1073741824

def CrInv (B : Nat) (w : World) (p r : Nat) (size born : Int) (V0 : Vw) (F : Nat → Prop) (picks : List Int) (ns : List (List UInt8)) (gN : Nat) (cur : Array Value) (iv : Value) (wr : World) : Prop :=
  ∃ (i : Nat) (fs' : List Fe), iv = .int .i64 i ∧ i ≤ ns.length ∧ CrI B w p r size born V0 F picks ns gN cur i fs' wr

theorem tot_mem {fs : List Fe} {f : Fe} (h : f ∈ fs) : f.b.length ≤ tot (vw fs) := by
  induction fs with
  | nil => cases h
  | cons g fs ih =>
    simp only [tot, vw, List.map_cons, List.sum_cons] at ih ⊢
    rcases List.mem_cons.1 h with rfl | h
    · omega
    · have := ih h; omega

theorem file_of_name {fs : List Fe} {n : ByteArray} (h : n ∈ (vw fs).map (·.1)) : ∃ f, fileOf n fs = some f := by
  cases hf : fileOf n fs with
  | some f => exact ⟨f, rfl⟩
  | none =>
    obtain ⟨e, he, rfl⟩ := List.mem_map.1 h
    obtain ⟨f, hfm, rfl⟩ := List.mem_map.1 he
    exact absurd rfl (fileOf_none hf f hfm)

set_option maxRecDepth 100000 in
set_option maxHeartbeats 4000000 in
/-- One round's stores: how much is used, then the file's slice and what is synced. -/
theorem crash_put {B : Nat} {w : World} {p r : Nat} {size used born : Int} {fs : List Fe} (h : DiskAt B w p r size used born fs) {f : Fe} (hf : f ∈ fs) {a : Option Addr} {c : Nat} (hbv : f.bv = .slice a f.b.length c) {k : Nat} (hk : k ≤ f.b.length) (used' : Int) :
    DiskAt B (((w.setCell ⟨p, 1, none⟩ (.int .i64 used')).setCell ⟨f.fb, 0, none⟩ (.slice a k k)).setCell ⟨f.fb, 1, none⟩ (.int .i64 k)) p r size used' born (putF f.name (.slice a k k) (f.b.take k) k fs) ∧
    Sep (Foot p r fs) w (((w.setCell ⟨p, 1, none⟩ (.int .i64 used')).setCell ⟨f.fb, 0, none⟩ (.slice a k k)).setCell ⟨f.fb, 1, none⟩ (.int .i64 k)) (Foot p r (putF f.name (.slice a k k) (f.b.take k) k fs)) := by
  obtain ⟨h1, s1⟩ := h.setUsed used'
  have hrow : OwnB B (w.setCell ⟨p, 1, none⟩ (.int .i64 used')) (.slice a k k) (f.b.take k) := ownB_cut (l := f.b) (c := c) (by rw [← hbv]; exact (h1.files f hf).row) hk
  have hc1 := (h1.files f hf).cell
  obtain ⟨h2, s2⟩ := h1.put hf (w1 := w.setCell ⟨p, 1, none⟩ (.int .i64 used')) (w2 := ((w.setCell ⟨p, 1, none⟩ (.int .i64 used')).setCell ⟨f.fb, 0, none⟩ (.slice a k k)).setCell ⟨f.fb, 1, none⟩ (.int .i64 k)) (s := k) hrow ⟨rfl, rfl, rfl, Nat.le_refl _, fun _ _ _ => rfl⟩ (fun b hb => .inl (by rw [hbv]; cases a <;> exact hb)) (setCell_heap (setCell_heap hc1 0 _) 1 _) (grown_trans (grown_setCell _ _ _ _) (grown_setCell _ _ _ _)) (by simp; omega)
  exact ⟨h2, s1.trans s2⟩
end Go.Proofs.YtpiedpdffkfhpaaDoor

/- disk.Crash: the walk. -/
namespace Go.Proofs.YtpiedpdffkfhpaaDoor
open Go.RowKit Go.Gl Go.Wal Go.Sort

def sortN (fs : List Fe) : List (List UInt8) := (pick (fun _ => true) (fs.map Fe.ent)).mergeSort (fun x y => decide (x ≤ y))

theorem sortN_mem {fs : List Fe} {n : List UInt8} (h : n ∈ sortN fs) : (⟨n.toArray⟩ : ByteArray) ∈ (vw fs).map (·.1) := by
  have h1 := (List.mergeSort_perm _ _).mem_iff.1 h
  unfold pick at h1
  obtain ⟨e, he, rfl⟩ := List.mem_map.1 h1
  obtain ⟨f, hf, rfl⟩ := List.mem_map.1 (List.mem_filter.1 he).1
  simp only [vw, List.map_map, List.mem_map, Function.comp]
  exact ⟨f, hf, by simp [Fe.ent]⟩

set_option maxRecDepth 100000 in
set_option maxHeartbeats 4000000 in
theorem crash_any {B : Nat} {w : World} {p r : Nat} {size born : Int} {fs : List Fe} (h : DiskAt B w p r size (tot (vw fs)) born fs) (hroom : tot (vw fs) ≤ 1073741824) (hmax : fs.length < 1000000000)
    {pv : Value} {picks : List Int} (hp : Iv w pv picks) (hfree : picks ≠ [] → IvFree (Foot p r fs) pv) :
    Calls Tryd.prog 12 #[.pointer (some ⟨p, 0, none⟩), pv] w fun e w' => e = .returned (.tuple #[]) ∧ ∃ fs', DiskAt B w' p r size (tot (vw fs')) born fs' ∧ Sep (Foot p r fs) w w' (Foot p r fs') ∧ vw fs' = crashV picks 0 (sortN fs) (vw fs) := by
  have hlist := list_all h hmax
  obtain ⟨pa, pc, hpv, hpm, _⟩ := id hp
  subst hpv
  have H := Lib.hid h
  have Hp := Lib.hid hp
  have Hfree := Lib.hid hfree
  have Hlist := Lib.hid hlist
  clear h hp hfree hlist
  go_enter Tryd.func12, Tryd.ntmps12
  go_wp2_with fail
  (with_reducible refine Hlist.out.mono ?_)
  rintro e w1 ⟨nv, rfl, hrow, hg1⟩
  have hln : (sortN fs).length = (pick (fun _ => true) (fs.map Fe.ent)).length := List.length_mergeSort _
  have hrow' : w1.ownsRow w.heap.size 9 1 nv (sortN fs).length ((sortN fs).map encStr) := by rw [hln]; exact hrow
  have hmem : ∀ n ∈ sortN fs, (⟨n.toArray⟩ : ByteArray) ∈ (vw fs).map (·.1) := fun n hn => sortN_mem hn
  generalize hnsd : sortN fs = ns at *
  have Hns := Lib.hid hnsd
  clear hnsd
  have h1 := H.out.grow hg1
  rcases hrow'.2 with ⟨rfl, hn0⟩ | ⟨gN, cap, cur, rfl, hge, hgN, hnc, hcm, hcs, htk⟩
  · have hns : ns = [] := List.eq_nil_of_length_eq_zero hn0
    subst hns
    have Hfin := Lib.hid h1
    have Hg1 := Lib.hid hg1
    clear h1 hg1 hrow hrow' hln hmem hn0
    go_wp2_with fail
    refine wp_loop_rounds 1 ?_
    rw [rounds_succ]
    go_wp2
    go_end0
    exact ⟨rfl, fs, Hfin.out, Sep.ofGrow Hg1.out, by rw [Hns.out]; rfl⟩
  · have hnm : ∀ (i : Nat) (n : List UInt8), ns[i]? = some n → ∀ W : World, W.heap[gN]? = some (.cells cur 9 (0, 0)) → W.cell? ⟨gN, i, none⟩ = some (.string ⟨n.toArray⟩) := fun i n hi W hW => by
      have h2 : (ns.map encStr)[i]? = some (.string ⟨n.toArray⟩) := by simp [hi, encStr]
      rw [← htk, Nat.mul_one, List.getElem?_take] at h2
      split at h2
      · have h3 : cur[i]? = some (.string ⟨n.toArray⟩) := by simpa using h2
        simp [World.cell?, hW, h3]
      · cases h2
    have hst : CrInv B w p r size born (vw fs) (Foot p r fs) picks ns gN cur (.int .i64 0) w1 := ⟨0, fs, rfl, Nat.zero_le _, h1, rfl, rfl, Sep.ofGrow hg1, hgN, hroom⟩
    have Hst := Lib.hid hst
    have Hnm := Lib.hid hnm
    have Hmem := Lib.hid hmem
    have hnl : ns.length < 1000000000 := by
      have h2 : (pick (fun _ => true) (fs.map Fe.ent)).length ≤ (fs.map Fe.ent).length := by unfold pick; rw [List.length_map]; exact List.length_filter_le _ _
      rw [List.length_map] at h2; omega
    clear h1 hg1 hrow hrow' hst hgN hnc hcm hcs htk hge hln hnm hmem
    go_wp2_with fail
    go_loopw [11] (fun iv wr => CrInv B w p r size born (vw fs) (Foot p r fs) picks ns gN cur iv wr) (fun iv _ => ns.length - (intOf iv).toNat)
    case atStart => exact Hst.out
    case round =>
      obtain ⟨i, fs', rfl, hi, hI⟩ := hrel
      by_cases hlt : i < ns.length
      · obtain ⟨n, hn⟩ : ∃ n, ns[i]? = some n := ⟨ns[i], by simp [hlt]⟩
        have hcn := Hnm.out i n hn wr hI.row
        have lgN := lt_of_getElem? hI.row
        obtain ⟨f, hfo⟩ : ∃ f, fileOf ⟨n.toArray⟩ fs' = some f := file_of_name (by rw [hI.names]; exact Hmem.out n (List.mem_of_getElem? hn))
        obtain ⟨hm, hfn⟩ := fileOf_some hfo
        have hlk : (Instr.lookup 50 (.map (some r)) (.string ⟨n.toArray⟩) false).run Tryd.prog wr = .ok (.pointer (some ⟨f.fb, 0, none⟩)) wr := by
          have := hI.disk.lookup ⟨n.toArray⟩
          simpa only [fileVal, hfo] using this
        obtain ⟨c0, c1, c2, c3⟩ := hI.disk.cells
        have lp := lt_of_getElem? hI.disk.self
        have hfa := hI.disk.files f hm
        obtain ⟨ba, bc, hbv⟩ := hfa.row.slice
        rw [bcells_len] at hbv
        have z0 : wr.cell? ⟨f.fb, 0, none⟩ = some (.slice ba f.b.length bc) := by simp [World.cell?, hfa.cell, hbv]
        have z1 : wr.cell? ⟨f.fb, 1, none⟩ = some (.int .i64 f.synced) := by simp [World.cell?, hfa.cell]
        have hbcl : f.b.length ≤ bc := by
          have := ownB_bv hfa.row
          rw [hbv] at this
          obtain ⟨_, _, he, h5, _⟩ := this
          cases he; exact h5
        have lf := lt_of_getElem? hfa.cell
        have hsy := hfa.sync
        have hbl := tot_mem hm
        have hrm := hI.room
        obtain ⟨kp, hkp⟩ : ∃ kp, kp = keptD picks i f.b.length f.synced := ⟨_, rfl⟩
        have hkl := keptD_le picks i hsy
        rw [← hkp] at hkl
        have hpk : Iv wr (.slice pa picks.length pc) picks := Hp.out.sep hI.sep Hfree.out
        have hi1 : (i : Int) < (ns.length : Int) := by omega
        have hi0 : (0 : Int) ≤ (i : Int) := by omega
        have hwi : IntKind.i64.wrap ((i : Int) + 1) = (i : Int) + 1 := IntWalk.i64_in _ (by omega)
        have Hrel' : Hid (∀ W, Grow wr W → CrInv B w p r size born (vw fs) (Foot p r fs) picks ns gN cur (.int .i64 ((i : Int) + 1)) (((W.setCell ⟨p, 1, none⟩ (.int .i64 ((tot (vw fs') : Int) - ((f.b.length : Int) - (kp : Int))))).setCell ⟨f.fb, 0, none⟩ (.slice ba kp kp)).setCell ⟨f.fb, 1, none⟩ (.int .i64 kp))) := Lib.hid (fun W hW => by
          obtain ⟨hd, hs⟩ := crash_put (hI.disk.grow hW) hm hbv hkl.2 ((tot (vw fs') : Int) - ((f.b.length : Int) - (kp : Int)))
          have hv := vw_cut hI.disk.names hm (.slice ba kp kp) kp
          have ht := tot_cut hI.disk.names hm hkl.2
          rw [← hv] at ht
          have hsep := (hI.sep.trans (Sep.ofGrow hW)).trans hs
          refine ⟨i + 1, putF f.name (.slice ba kp kp) (f.b.take kp) kp fs', by simp, hlt, ?_, ?_, ?_, hsep, ?_, by omega⟩
          · have : ((tot (vw (putF f.name (.slice ba kp kp) (f.b.take kp) kp fs')) : Nat) : Int) = (tot (vw fs') : Int) - ((f.b.length : Int) - (kp : Int)) := by omega
            rw [this]; exact hd
          · rw [hI.run]
            have hdr : ns.drop i = n :: ns.drop (i + 1) := by
              obtain ⟨h5, rfl⟩ := List.getElem?_eq_some_iff.1 hn
              exact List.drop_eq_getElem_cons h5
            rw [hdr, crashV, lookV_file, hfo]
            simp only [Option.map_some]
            rw [← hkp, hv, hfn]
          · rw [hv, names_cut]; exact hI.names
          · have hnf := (hI.disk.grow hW).apart (hW.heap hI.row) (by decide) (by decide) (by decide)
            rw [hs.out gN (lt_of_getElem? (hW.heap hI.row)) hnf]
            exact hW.heap hI.row)
        have ff : ∀ W : World, Grow wr W → (∀ j, W.frozen? ⟨p, j, none⟩ = false) ∧ (∀ j, W.frozen? ⟨f.fb, j, none⟩ = false) := fun W hW => ⟨fun j => by simp [World.frozen?, hW.heap hI.disk.self], fun j => by simp [World.frozen?, hW.heap hfa.cell]⟩
        have hfp : f.fb ≠ p := (hI.disk.fb_ne hm).1
        have hpf : p ≠ f.fb := Ne.symm hfp
        have hfp2 : (f.fb = p) = False := by simpa using hfp
        have hpf2 : (p = f.fb) = False := by simpa using hpf
        clear hI hfa hbv hm hfo hn
        have hcl := Grow.cells (w := wr)
        have hgd : Grow wr wr.drew := Grow.drew wr
        by_cases hpi : i < picks.length
        · obtain ⟨k, hk⟩ : ∃ k, picks[i]? = some k := ⟨picks[i], by simp [hpi]⟩
          obtain ⟨pb, po, rfl, lpb, hpc⟩ : ∃ b o, pa = some ⟨b, o, none⟩ ∧ b < wr.heap.size ∧ ∀ (j : Nat) (k : Int), picks[j]? = some k → wr.cell? ⟨b, o + j, none⟩ = some (.int .i64 k) := by
            obtain ⟨a', c', he, _, h5⟩ := hpk
            cases he
            rcases h5 with h5 | h5
            · rw [h5] at hpi; simp at hpi
            · exact h5
          have pk := hpc i k hk
          have hpi1 : (i : Int) < (picks.length : Int) := by omega
          by_cases hk0 : 0 ≤ k
          · have e1 : decide ((0 : Int) ≤ k) = true := by simpa using hk0
            have hkv : (kp : Int) = (f.synced : Int) + k % (((f.b.length - f.synced + 1 : Nat)) : Int) := by
              rw [hkp]; unfold keptD; rw [hk]; simp only [if_pos hk0]
              have := Int.emod_nonneg k (b := ((f.b.length - f.synced + 1 : Nat) : Int)) (by omega)
              omega
            clear hpc hk hpk hkp
            go_upto_region 6 with fail
            have hw5 : IntKind.i64.wrap ((f.b.length : Int) - (f.synced : Int)) = (f.b.length : Int) - (f.synced : Int) := IntWalk.i64_in _ (by omega)
            have hw6 : IntKind.i64.wrap ((f.b.length : Int) - (f.synced : Int) + 1) = (f.b.length : Int) - (f.synced : Int) + 1 := IntWalk.i64_in _ (by omega)
            have hnz : ¬ ((f.b.length : Int) - (f.synced : Int) + 1 = 0) := by omega
            refine wp_region_pi (fun W => Below wr.heap.size wr W) [(0, false), (1, false), (2, false), (3, false), (4, false), (5, false), (6, false), (7, false), (8, false), (9, false), (10, false), (11, false), (12, false), (13, false), (14, false), (15, false), (16, false), (17, false), (18, false)] (by kernel_rfl) (by kernel_rfl) (fun c a d v w h => by cases d <;> exact h) (Grow.drew _) ?_
            simp only [arrange, nth]
            repeat (first | (refine wpPi_quiet (v := ?_) (by rfl) (fun W hW => ?_) ?_; rotate_left; (obtain hW := hW; go_simp; with_reducible rfl); simp only [Act.put, List.setIfInBounds_toArray, List.set_cons_zero, List.set_cons_succ]) | (refine wpPi_off (by rfl) ?_; simp only [Act.put, List.setIfInBounds_toArray, List.set_cons_zero, List.set_cons_succ]))
            refine wpPi_nil ?_
            have h7 : IntKind.i64.wrap ((f.synced : Int) + k.tmod ((f.b.length : Int) - (f.synced : Int) + 1)) = (kp : Int) := by
              rw [Int.tmod_eq_emod_of_nonneg hk0, show ((f.b.length : Int) - (f.synced : Int) + 1) = ((f.b.length - f.synced + 1 : Nat) : Int) by omega, ← hkv]
              exact IntWalk.i64_in _ (by omega)
            rw [h7]
            clear h7 hkv
            go_upto_region 7 with fail
            have hw3g : Grow wr wr.drew := (Grow.drew wr)
            have Hrel := Lib.hid (Hrel'.out (wr.drew).drew (hw3g.trans (Grow.drew _)))
            have hw1' : IntKind.i64.wrap ((f.b.length : Int) - (kp : Int)) = (f.b.length : Int) - (kp : Int) := IntWalk.i64_in _ (by omega)
            have hw2' : IntKind.i64.wrap ((tot (vw fs') : Int) - ((f.b.length : Int) - (kp : Int))) = (tot (vw fs') : Int) - ((f.b.length : Int) - (kp : Int)) := IntWalk.i64_in _ (by omega)
            obtain ⟨ff1, ff2⟩ := ff wr (Grow.refl _)
            have hcb : kp ≤ bc := by omega
            clear Hrel' ff hw3g
            refine wp_region_last (fun W => Below wr.heap.size wr W) [(0, false), (1, false), (2, false), (3, false), (4, false), (5, false), (6, false), (7, false), (8, false), (9, false), (10, false), (11, false), (12, false), (13, false)] 14 (by kernel_rfl) (by kernel_rfl) (fun c a d v w h => by cases d <;> exact h) ((Grow.drew wr).trans (Grow.drew _)) ?_
            simp only [arrange, nth]
            repeat (first | (refine wpPi_quiet (v := ?_) (by rfl) (fun W hW => ?_) ?_; rotate_left; (obtain hW := hW; go_simp; with_reducible rfl); simp only [Act.put, List.setIfInBounds_toArray, List.set_cons_zero, List.set_cons_succ]) | (refine wpPi_off (by rfl) ?_; simp only [Act.put, List.setIfInBounds_toArray, List.set_cons_zero, List.set_cons_succ]))
            refine wpPi_nil ?_
            refine lastQ_act (by rfl) (fun K hK => ?_)
            go_simp
            refine hK _ _ ?_
            clear hK K hcl
            try simp only [Act.put, List.setIfInBounds_toArray, List.set_cons_zero, List.set_cons_succ]
            go_wp2
            go_roundw
            case rel => exact Hrel.out
            case measure => simp [intOf]; omega
          · have e1 : decide ((0 : Int) ≤ k) = false := by simpa using hk0
            have hkv : kp = f.synced := by rw [hkp]; unfold keptD; rw [hk]; simp only [if_neg hk0]
            clear hpc hk hpk hkp
            subst hkv
            go_upto_region 7 with fail
            have hw3g : Grow wr wr := (Grow.refl wr)
            have Hrel := Lib.hid (Hrel'.out (wr).drew (hw3g.trans (Grow.drew _)))
            have hw1' : IntKind.i64.wrap ((f.b.length : Int) - (f.synced : Int)) = (f.b.length : Int) - (f.synced : Int) := IntWalk.i64_in _ (by omega)
            have hw2' : IntKind.i64.wrap ((tot (vw fs') : Int) - ((f.b.length : Int) - (f.synced : Int))) = (tot (vw fs') : Int) - ((f.b.length : Int) - (f.synced : Int)) := IntWalk.i64_in _ (by omega)
            obtain ⟨ff1, ff2⟩ := ff wr hw3g
            have hcb : f.synced ≤ bc := by omega
            clear Hrel' ff hw3g
            refine wp_region_last (fun W => Below wr.heap.size wr W) [(0, false), (1, false), (2, false), (3, false), (4, false), (5, false), (6, false), (7, false), (8, false), (9, false), (10, false), (11, false), (12, false), (13, false)] 14 (by kernel_rfl) (by kernel_rfl) (fun c a d v w h => by cases d <;> exact h) ((Grow.refl wr).trans (Grow.drew _)) ?_
            simp only [arrange, nth]
            repeat (first | (refine wpPi_quiet (v := ?_) (by rfl) (fun W hW => ?_) ?_; rotate_left; (obtain hW := hW; go_simp; with_reducible rfl); simp only [Act.put, List.setIfInBounds_toArray, List.set_cons_zero, List.set_cons_succ]) | (refine wpPi_off (by rfl) ?_; simp only [Act.put, List.setIfInBounds_toArray, List.set_cons_zero, List.set_cons_succ]))
            refine wpPi_nil ?_
            refine lastQ_act (by rfl) (fun K hK => ?_)
            go_simp
            refine hK _ _ ?_
            clear hK K hcl
            try simp only [Act.put, List.setIfInBounds_toArray, List.set_cons_zero, List.set_cons_succ]
            go_wp2
            go_roundw
            case rel => exact Hrel.out
            case measure => simp [intOf]; omega
        · have hkv : kp = f.synced := by rw [hkp]; unfold keptD; rw [List.getElem?_eq_none (by omega)]
          have hpi1 : ¬ (i : Int) < (picks.length : Int) := by omega
          clear hpk hkp
          subst hkv
          go_upto_region 7 with fail
          have hw3g : Grow wr wr := (Grow.refl wr)
          have Hrel := Lib.hid (Hrel'.out (wr).drew (hw3g.trans (Grow.drew _)))
          have hw1' : IntKind.i64.wrap ((f.b.length : Int) - (f.synced : Int)) = (f.b.length : Int) - (f.synced : Int) := IntWalk.i64_in _ (by omega)
          have hw2' : IntKind.i64.wrap ((tot (vw fs') : Int) - ((f.b.length : Int) - (f.synced : Int))) = (tot (vw fs') : Int) - ((f.b.length : Int) - (f.synced : Int)) := IntWalk.i64_in _ (by omega)
          obtain ⟨ff1, ff2⟩ := ff wr hw3g
          have hcb : f.synced ≤ bc := by omega
          clear Hrel' ff hw3g
          refine wp_region_last (fun W => Below wr.heap.size wr W) [(0, false), (1, false), (2, false), (3, false), (4, false), (5, false), (6, false), (7, false), (8, false), (9, false), (10, false), (11, false), (12, false), (13, false)] 14 (by kernel_rfl) (by kernel_rfl) (fun c a d v w h => by cases d <;> exact h) ((Grow.refl wr).trans (Grow.drew _)) ?_
          simp only [arrange, nth]
          repeat (first | (refine wpPi_quiet (v := ?_) (by rfl) (fun W hW => ?_) ?_; rotate_left; (obtain hW := hW; go_simp; with_reducible rfl); simp only [Act.put, List.setIfInBounds_toArray, List.set_cons_zero, List.set_cons_succ]) | (refine wpPi_off (by rfl) ?_; simp only [Act.put, List.setIfInBounds_toArray, List.set_cons_zero, List.set_cons_succ]))
          refine wpPi_nil ?_
          refine lastQ_act (by rfl) (fun K hK => ?_)
          go_simp
          refine hK _ _ ?_
          clear hK K hcl
          try simp only [Act.put, List.setIfInBounds_toArray, List.set_cons_zero, List.set_cons_succ]
          go_wp2
          go_roundw
          case rel => exact Hrel.out
          case measure => simp [intOf]; omega
      · obtain rfl : i = ns.length := by omega
        have hv := hI.run
        rw [List.drop_length] at hv
        have Hd := Lib.hid hI.disk
        have Hs := Lib.hid hI.sep
        have Hv := Lib.hid hv
        clear hI hv
        go_wp2
        go_end0
        exact ⟨rfl, fs', Hd.out, Hs.out, by rw [Hns.out, Hv.out]; rfl⟩
end Go.Proofs.YtpiedpdffkfhpaaDoor
