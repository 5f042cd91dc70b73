/- Merged out of D1, D2, D3, D4, D5, D6, D7: helpers. -/
import Derived.Test.YtejpcoghkgjanaaGreatDoorVC
import Derived.MapKept
import Derived.Shelf.Abstract
import Derived.Deep.CutRange
import Derived.Deep.DeepCutAuto
/- A disk in memory: its files, what of memory it is, what an operation leaves alone. -/
namespace Go.Proofs.YtejpcoghkgjanaaGreatDoor
open Go.RowKit Go.Gl Go.Wal
open Go.MapKept (bytes_beq run_checkKey run_findKey IsKey)

theorem findNow_str (k : ByteArray) : ∀ (l : List (Ent ByteArray)) (i : Nat), Instr.findNow .string (.string k) (l.map (Ent.raw Value.string)) i = some (findFrom k l i)
  | [], _ => rfl
  | e :: es, i => by
    simp only [List.map_cons, Instr.findNow, Ent.raw, Instr.sameNow, findFrom]
    by_cases h : k = e.key
    · have : (k == e.key) = true := (bytes_beq _ _).2 h
      rw [this, if_pos h]
    · have : (k == e.key) = false := by
        cases hb : (k == e.key) with
        | false => rfl
        | true => exact absurd ((bytes_beq _ _).1 hb) h
      simp only [this, if_neg h]
      exact findNow_str k es (i + 1)

theorem keyOkS : KeyOk (κ := ByteArray) Tryz.prog 9 Value.string where
  check := fun b k w => run_checkKey Tryz.underlying9 (by simp [IsKey]) b 9999
  same := fun k => by simp [Instr.sameBits, bytes_beq]
  find := fun k l w => run_findKey Tryz.underlying9 (findNow_str k l 0)

theorem zeroFile (w : World) : (zeroValue 75).run Tryz.prog w = .ok (.pointer none) w := by kernel_rfl

/-- A file of a disk. -/
structure Fe where
  name : ByteArray
  born : Nat
  fb : Nat
  bv : Value
  b : List UInt8
  synced : Nat

def Fe.ent (f : Fe) : Ent ByteArray := ⟨f.name, .pointer (some ⟨f.fb, 0, none⟩), f.born⟩

structure FileAt (B : Nat) (w : World) (f : Fe) : Prop where
  cell : w.heap[f.fb]? = some (.cells #[f.bv, .int .i64 f.synced] 77 (0, 0))
  row : OwnB B w f.bv f.b
  base : B ≤ f.fb
  sync : f.synced ≤ f.b.length

structure DiskAt (B : Nat) (w : World) (p r : Nat) (size used born : Int) (fs : List Fe) : Prop where
  self : w.heap[p]? = some (.cells #[.int .i64 size, .int .i64 used, .int .i64 born, .map (some r)] 56 (0, 0))
  map : ∃ clock, MapAt w r Value.string (fs.map Fe.ent) clock ∧ ∀ f ∈ fs, f.born < clock
  names : (fs.map Fe.name).Nodup
  borns : (fs.map Fe.born).Nodup
  fbs : (fs.map Fe.fb).Nodup
  rows : ∀ f ∈ fs, ∀ g ∈ fs, ∀ b, f.bv.ownBlock = some b → g.bv.ownBlock = some b → f.name = g.name
  files : ∀ f ∈ fs, FileAt B w f
  base : B ≤ p ∧ B ≤ r ∧ B ≤ w.heap.size

/-- The blocks of a disk. -/
def Foot (p r : Nat) (fs : List Fe) (b : Nat) : Prop := b = p ∨ b = r ∨ ∃ f ∈ fs, b = f.fb ∨ f.bv.ownBlock = some b

/-- What an operation on a disk leaves alone: all but the disk's blocks; new blocks may have come to it. -/
structure Sep (F : Nat → Prop) (w w' : World) (F' : Nat → Prop) : Prop where
  os : w'.os = w.os
  tape : w'.tape = w.tape
  output : w'.output = w.output
  size : w.heap.size ≤ w'.heap.size
  out : ∀ b, b < w.heap.size → ¬ F b → w'.heap[b]? = w.heap[b]?
  foot : ∀ b, F' b → F b ∨ w.heap.size ≤ b

theorem Sep.refl (F : Nat → Prop) (w : World) : Sep F w w F := ⟨rfl, rfl, rfl, Nat.le_refl _, fun _ _ _ => rfl, fun _ h => .inl h⟩
theorem Sep.trans {F F' F'' : Nat → Prop} {w w' w'' : World} (h : Sep F w w' F') (k : Sep F' w' w'' F'') : Sep F w w'' F'' :=
  ⟨k.os.trans h.os, k.tape.trans h.tape, k.output.trans h.output, Nat.le_trans h.size k.size, fun b hb hn => by
    have hn' : ¬ F' b := fun hf => by
      rcases h.foot b hf with h1 | h1
      · exact hn h1
      · omega
    rw [k.out b (Nat.lt_of_lt_of_le hb h.size) hn', h.out b hb hn], fun b hb => by
    rcases k.foot b hb with h1 | h1
    · exact h.foot b h1
    · exact .inr (Nat.le_trans h.size h1)⟩
theorem Sep.ofGrow {F : Nat → Prop} {w w' : World} (h : Grow w w') : Sep F w w' F :=
  ⟨h.os, h.tape, h.output, h.size, fun b hb _ => h.block b hb, fun _ h => .inl h⟩
theorem Sep.free {F F' : Nat → Prop} {w w' : World} (h : Sep F w w' F') {b : Nat} (hb : b < w.heap.size) (hn : ¬ F b) : w'.heap[b]? = w.heap[b]? ∧ b < w'.heap.size ∧ ¬ F' b :=
  ⟨h.out b hb hn, Nat.lt_of_lt_of_le hb h.size, fun hf => by
    rcases h.foot b hf with h1 | h1
    · exact hn h1
    · omega⟩
theorem Sep.below {F F' : Nat → Prop} {w w' : World} {B : Nat} (h : Sep F w w' F') (hB : ∀ b, F b → B ≤ b) (hs : B ≤ w.heap.size) : Below B w w' :=
  ⟨h.os, h.tape, h.output, h.size, fun b hb => h.out b (by omega) (fun hf => by have := hB b hf; omega)⟩

section
variable {B : Nat} {w w' : World} {p r : Nat} {size used born : Int} {fs : List Fe}

theorem DiskAt.foot_lt (h : DiskAt B w p r size used born fs) {b : Nat} (hb : Foot p r fs b) : B ≤ b ∧ b < w.heap.size := by
  obtain ⟨c, hm, _⟩ := h.map
  rcases hb with rfl | rfl | ⟨f, hf, rfl | hr⟩
  · exact ⟨h.base.1, lt_of_getElem? h.self⟩
  · exact ⟨h.base.2.1, lt_of_getElem? hm⟩
  · exact ⟨(h.files f hf).base, lt_of_getElem? (h.files f hf).cell⟩
  · exact (h.files f hf).row.lt hr

/-- Blocks of another kind are no blocks of a disk. -/
theorem DiskAt.apart (h : DiskAt B w p r size used born fs) {b : Nat} {arr : Array Value} {t : TypeId} {f : Nat × Nat} (hb : w.heap[b]? = some (.cells arr t f)) (h1 : t ≠ 56) (h2 : t ≠ 77) (h3 : t ≠ 5) : ¬ Foot p r fs b := by
  obtain ⟨c, hm, _⟩ := h.map
  rintro (rfl | rfl | ⟨g, hg, rfl | hr⟩)
  · rw [h.self] at hb; cases hb; exact h1 rfl
  · rw [hm] at hb; cases hb
  · rw [(h.files g hg).cell] at hb; cases hb; exact h2 rfl
  · exact (h.files g hg).row.apart hb h3 hr

theorem DiskAt.grow (h : DiskAt B w p r size used born fs) (hg : Grow w w') : DiskAt B w' p r size used born fs := by
  obtain ⟨c, hm, hc⟩ := h.map
  exact ⟨hg.heap h.self, ⟨c, hg.heap hm, hc⟩, h.names, h.borns, h.fbs, h.rows, fun f hf => ⟨hg.heap (h.files f hf).cell, (h.files f hf).row.grow hg, (h.files f hf).base, (h.files f hf).sync⟩, h.base.1, h.base.2.1, Nat.le_trans h.base.2.2 hg.size⟩

/-- The file of a name. -/
def fileOf (n : ByteArray) (fs : List Fe) : Option Fe := fs.find? (fun f => decide (n = f.name))

def fileVal (n : ByteArray) (fs : List Fe) : Value := match fileOf n fs with | none => .pointer none | some f => .pointer (some ⟨f.fb, 0, none⟩)

theorem fileOf_some {n : ByteArray} {f : Fe} (h : fileOf n fs = some f) : f ∈ fs ∧ f.name = n := by
  have := List.find?_some h
  exact ⟨List.mem_of_find?_eq_some h, by simpa using (by simpa using this : n = f.name).symm⟩
theorem fileOf_none {n : ByteArray} (h : fileOf n fs = none) : ∀ f ∈ fs, n ≠ f.name := fun f hf => by
  have := List.find?_eq_none.1 h f hf
  simpa using this

theorem valAt_file (n : ByteArray) (fs : List Fe) : valAt n (.pointer none) (fs.map Fe.ent) = fileVal n fs := by
  unfold valAt fileVal fileOf
  induction fs with
  | nil => rfl
  | cons f fs ih =>
    simp only [List.map_cons, List.find?_cons]
    by_cases h : n = f.name
    · simp [Fe.ent, h]
    · have h' : n ≠ f.ent.key := h
      simp only [h, h', decide_false]
      exact ih

theorem DiskAt.lookup (h : DiskAt B w p r size used born fs) (n : ByteArray) : (Instr.lookup 54 (.map (some r)) (.string n) false).run Tryz.prog w = .ok (fileVal n fs) w := by
  obtain ⟨c, hm, _⟩ := h.map
  rw [run_lookup keyOkS Tryz.underlying54 (zeroFile w) hm n, valAt_file]

theorem DiskAt.cells (h : DiskAt B w p r size used born fs) : w.cell? ⟨p, 0, none⟩ = some (.int .i64 size) ∧ w.cell? ⟨p, 1, none⟩ = some (.int .i64 used) ∧ w.cell? ⟨p, 2, none⟩ = some (.int .i64 born) ∧ w.cell? ⟨p, 3, none⟩ = some (.map (some r)) := by
  simp [World.cell?, h.self]
end
end Go.Proofs.YtejpcoghkgjanaaGreatDoor

/- disk.New, disk.Name at names, disk.Read. -/
namespace Go.Proofs.YtejpcoghkgjanaaGreatDoor
open Go.RowKit Go.Gl Go.Wal

theorem new_ok (size : Int) (w : World) (h1 : 1 ≤ size) (h2 : size ≤ 1073741824) :
    Calls Tryz.prog 5 #[.int .i64 size] w fun e w' => e = .returned (.tuple #[.pointer (some ⟨w.heap.size + 1, 0, none⟩), .int .i64 0]) ∧ DiskAt w.heap.size w' (w.heap.size + 1) w.heap.size size 0 0 [] ∧ Grow w w' := by
  have hmm := @run_makeMap Tryz.prog
  go_enter Tryz.func5, Tryz.ntmps5
  go_wp2
  go_ret2
  refine ⟨rfl, ⟨?_, ⟨0, ?_, (fun f hf => by cases hf)⟩, List.nodup_nil, List.nodup_nil, List.nodup_nil, (fun f hf => by cases hf), (fun f hf => by cases hf), by omega, Nat.le_refl _, by simp; omega⟩, by (repeat (first | exact Below.refl _ _ | assumption | refine Below.drew ?_ | refine bDrewN ?_ | refine Below.setCell ?_ (by first | omega | (simp <;> omega)) _ | refine Below.alloc ?_ (by first | omega | (simp <;> omega)) _))⟩
  · have := heap_alloc_new (w.alloc (.map #[] 0)) (.cells #[.int .i64 size, .int .i64 0, .int .i64 0, .map (some w.heap.size)] 56)
    simpa using this
  · exact (heap_alloc_old _ _ (by simp)).trans (heap_alloc_new _ _)

/-- A byte of a name. -/
def okc (c : UInt8) : Bool := (decide (97 ≤ c.toNat) && decide (c.toNat ≤ 122)) || (decide (48 ≤ c.toNat) && decide (c.toNat ≤ 57)) || decide (c.toNat = 45) || decide (c.toNat = 46)

def NameOk (s : ByteArray) : Prop := 1 ≤ s.size ∧ s.size ≤ 64 ∧ ∀ (i : Nat) (h : i < s.size), okc s[i] = true

def NmInv (w : World) (s : ByteArray) (iv : Value) (wr : World) : Prop := ∃ i : Nat, iv = .int .i64 i ∧ i ≤ s.size ∧ wr = w

set_option maxRecDepth 100000 in
set_option maxHeartbeats 4000000 in
theorem name_ok {s : ByteArray} (h : NameOk s) (w : World) : Calls Tryz.prog 55 #[.string s] w fun e w' => e = .returned (.bool true) ∧ w' = w := by
  obtain ⟨hs1, hs2, hall⟩ := h
  have Hall := Lib.hid hall
  have e1 : decide ((s.size : Int) < 1) = false := by simp; omega
  have e2 : decide ((64 : Int) < (s.size : Int)) = false := by simp; omega
  clear hall
  go_enter Tryz.func55, Tryz.ntmps55
  go_wp2_with fail
  go_loopw [15] (fun iv wr => NmInv w s iv wr) (fun iv _ => s.size - (intOf iv).toNat)
  case atStart => exact ⟨0, rfl, Nat.zero_le _, rfl⟩
  case round =>
    obtain ⟨i, rfl, hi, hwr⟩ := hrel
    have hwr' := hwr.symm
    subst hwr'
    clear hwr
    by_cases hlt : i < s.size
    · have hi1 : (i : Int) < (s.size : Int) := by omega
      have hi0 : (0 : Int) ≤ (i : Int) := by omega
      have hwi : IntKind.i64.wrap ((i : Int) + 1) = (i : Int) + 1 := IntWalk.i64_in _ (by omega)
      have hc := Hall.out i hlt
      have hok : (97 ≤ s[i].toNat ∧ s[i].toNat ≤ 122) ∨ (48 ≤ s[i].toNat ∧ s[i].toNat ≤ 57) ∨ s[i].toNat = 45 ∨ s[i].toNat = 46 := by
        simp only [okc, Bool.or_eq_true, Bool.and_eq_true, decide_eq_true_eq] at hc
        rcases hc with ((h | h) | h) | h
        · exact .inl h
        · exact .inr (.inl h)
        · exact .inr (.inr (.inl h))
        · exact .inr (.inr (.inr h))
      clear hc
      go_upto_region 7 with fail
      generalize s[i].toNat = k at *
      rcases hok with h | h | h | h
      · have Hk := Lib.hid h
        have f1 : decide ((97 : Int) ≤ (k : Int)) = true := by simp; omega
        have f2 : decide ((k : Int) ≤ 122) = true := by simp; omega
        clear h
        go_wp2
        go_roundw
        case rel => exact ⟨i + 1, by simp, hlt, rfl⟩
        case measure => simp [intOf]; omega
      · have Hk := Lib.hid h
        have f1 : decide ((97 : Int) ≤ (k : Int)) = false := by simp; omega
        have f3 : decide ((48 : Int) ≤ (k : Int)) = true := by simp; omega
        have f4 : decide ((k : Int) ≤ 57) = true := by simp; omega
        clear h
        go_wp2
        go_roundw
        case rel => exact ⟨i + 1, by simp, hlt, rfl⟩
        case measure => simp [intOf]; omega
      · have Hk := Lib.hid h
        have f1 : decide ((97 : Int) ≤ (k : Int)) = false := by simp; omega
        have f3 : decide ((48 : Int) ≤ (k : Int)) = false := by simp; omega
        have f5 : ((k : Int) == 45) = true := by simp; omega
        clear h
        go_wp2
        go_roundw
        case rel => exact ⟨i + 1, by simp, hlt, rfl⟩
        case measure => simp [intOf]; omega
      · have Hk := Lib.hid h
        have f1 : decide ((97 : Int) ≤ (k : Int)) = false := by simp; omega
        have f3 : decide ((48 : Int) ≤ (k : Int)) = false := by simp; omega
        have f5 : ((k : Int) == 45) = false := by simp; omega
        have f6 : ((k : Int) == 46) = true := by simp; omega
        clear h
        go_wp2
        go_roundw
        case rel => exact ⟨i + 1, by simp, hlt, rfl⟩
        case measure => simp [intOf]; omega
    · obtain rfl : i = s.size := by omega
      go_wp2
      go_ret
      exact ⟨rfl, rfl⟩

set_option maxRecDepth 100000 in
theorem read_any {B : Nat} {w : World} {p r : Nat} {size used born : Int} {fs : List Fe} (h : DiskAt B w p r size used born fs) (n : ByteArray) (hb : ∀ f ∈ fs, f.b.length ≤ 140737488355328) :
    Calls Tryz.prog 32 #[.pointer (some ⟨p, 0, none⟩), .string n] w fun e w' =>
      (match fileOf n fs with
       | none => e = .returned (.tuple #[.slice none 0 0, .int .i64 4])
       | some f => ∃ v, e = .returned (.tuple #[v, .int .i64 0]) ∧ OwnB w.heap.size w' v f.b) ∧ Grow w w' := by
  have hlk := h.lookup n
  obtain ⟨c0, c1, c2, c3⟩ := h.cells
  have lp := lt_of_getElem? h.self
  cases hf : fileOf n fs with
  | none =>
    simp only [fileVal, hf] at hlk
    have Hf := Lib.hid hf
    clear hf
    go_enter Tryz.func32, Tryz.ntmps32
    go_wp2
    go_ret2
    exact ⟨rfl, Grow.refl _⟩
  | some f =>
    simp only [fileVal, hf] at hlk
    obtain ⟨hm, hn⟩ := fileOf_some hf
    have hfa := h.files f hm
    have hcl := clone_any (ownB_bv hfa.row) (hb f hm)
    obtain ⟨ba, bc, hbv⟩ := hfa.row.slice
    have q0 : w.cell? ⟨f.fb, 0, none⟩ = some (.slice ba (bcells f.b).length bc) := by simp [World.cell?, hfa.cell, hbv]
    have lf := lt_of_getElem? hfa.cell
    rw [hbv] at hcl
    have Hcl := Lib.hid hcl
    clear hcl hf hfa hbv
    go_enter Tryz.func32, Tryz.ntmps32
    go_wp2_with fail
    (with_reducible refine Hcl.out.mono ?_)
    rintro e w1 ⟨v1, rfl, ho1, hg1⟩
    go_wp2
    go_ret2
    exact ⟨⟨_, rfl, ho1⟩, hg1⟩
end Go.Proofs.YtejpcoghkgjanaaGreatDoor

/- What turns a disk in memory: a new file, bytes behind a file's, how much is used, what is synced. -/
namespace Go.Proofs.YtejpcoghkgjanaaGreatDoor
open Go.RowKit Go.Gl Go.Wal

/-- A disk's files as data. -/
abbrev Vw := List (ByteArray × List UInt8 × Nat)
def vw (fs : List Fe) : Vw := fs.map fun f => (f.name, f.b, f.synced)

section
variable {B : Nat} {w w' : World} {p r : Nat} {size used born : Int} {fs : List Fe}

theorem name_inj (h : (fs.map Fe.name).Nodup) {a b : Fe} (ha : a ∈ fs) (hb : b ∈ fs) (hk : a.name = b.name) : a = b := by
  induction fs with
  | nil => cases ha
  | cons x fs ih =>
    simp only [List.map_cons, List.nodup_cons, List.mem_map, not_exists, not_and] at h
    rcases List.mem_cons.1 ha with rfl | ha' <;> rcases List.mem_cons.1 hb with rfl | hb'
    · rfl
    · exact absurd hk.symm (h.1 b hb')
    · exact absurd hk (h.1 a ha')
    · exact ih h.2 ha' hb'

theorem fb_inj (h : (fs.map Fe.fb).Nodup) {a b : Fe} (ha : a ∈ fs) (hb : b ∈ fs) (hk : a.fb = b.fb) : a = b := by
  induction fs with
  | nil => cases ha
  | cons x fs ih =>
    simp only [List.map_cons, List.nodup_cons, List.mem_map, not_exists, not_and] at h
    rcases List.mem_cons.1 ha with rfl | ha' <;> rcases List.mem_cons.1 hb with rfl | hb'
    · rfl
    · exact absurd hk.symm (h.1 b hb')
    · exact absurd hk (h.1 a ha')
    · exact ih h.2 ha' hb'

theorem DiskAt.p_ne_r (h : DiskAt B w p r size used born fs) : p ≠ r := by
  obtain ⟨c, hm, _⟩ := h.map
  rintro rfl
  rw [MapAt, h.self] at hm; cases hm
theorem DiskAt.fb_ne (h : DiskAt B w p r size used born fs) {f : Fe} (hf : f ∈ fs) : f.fb ≠ p ∧ f.fb ≠ r := by
  obtain ⟨c, hm, _⟩ := h.map
  have hc := (h.files f hf).cell
  constructor
  · intro e; rw [e, h.self] at hc; simp at hc
  · intro e; rw [e, hm] at hc; cases hc
theorem DiskAt.row_ne (h : DiskAt B w p r size used born fs) {f : Fe} (hf : f ∈ fs) {b : Nat} (hb : f.bv.ownBlock = some b) : b ≠ p ∧ b ≠ r ∧ ∀ g ∈ fs, b ≠ g.fb := by
  obtain ⟨c, hm, _⟩ := h.map
  obtain ⟨cur, hc⟩ := (h.files f hf).row.block hb
  refine ⟨fun e => ?_, fun e => ?_, fun g hg e => ?_⟩
  · rw [e, h.self] at hc; cases hc
  · rw [e, hm] at hc; cases hc
  · rw [e, (h.files g hg).cell] at hc; cases hc

/-- How much is used is laid. -/
theorem DiskAt.setUsed (h : DiskAt B w p r size used born fs) (used' : Int) : DiskAt B (w.setCell ⟨p, 1, none⟩ (.int .i64 used')) p r size used' born fs ∧ Sep (Foot p r fs) w (w.setCell ⟨p, 1, none⟩ (.int .i64 used')) (Foot p r fs) := by
  obtain ⟨c, hm, hc⟩ := h.map
  have ho : ∀ b, b ≠ p → (w.setCell ⟨p, 1, none⟩ (.int .i64 used')).heap[b]? = w.heap[b]? := fun b hb => Below.heap_setCell _ _ _ _ hb
  refine ⟨⟨setCell_heap h.self 1 _, ⟨c, (ho r (Ne.symm h.p_ne_r)).trans hm, hc⟩, h.names, h.borns, h.fbs, h.rows, fun f hf => ?_, h.base.1, h.base.2.1, by simpa using h.base.2.2⟩, ⟨rfl, rfl, rfl, by simp, fun b _ hn => ho b (fun e => hn (.inl e)), fun b hb => .inl hb⟩⟩
  have hfa := h.files f hf
  exact ⟨(ho _ (h.fb_ne hf).1).trans hfa.cell, hfa.row.keep (fun b hb => ho b (h.row_ne hf hb).1), hfa.base, hfa.sync⟩

/-- A new file, empty. -/
theorem DiskAt.newFile (h : DiskAt B w p r size used born fs) {n : ByteArray} (hn : fileOf n fs = none) {c : Nat} (hm : MapAt w r Value.string (fs.map Fe.ent) c) (hc : ∀ f ∈ fs, f.born < c) :
    DiskAt B (setO (w.alloc (.cells #[.slice none 0 0, .int .i64 0] 77)) r (.map (((fs.map Fe.ent) ++ [(⟨n, .pointer (some ⟨w.heap.size, 0, none⟩), c⟩ : Ent ByteArray)]).map (Ent.raw Value.string)).toArray (c + 1))) p r size used born (fs ++ [⟨n, c, w.heap.size, .slice none 0 0, [], 0⟩]) ∧
    Sep (Foot p r fs) w (setO (w.alloc (.cells #[.slice none 0 0, .int .i64 0] 77)) r (.map (((fs.map Fe.ent) ++ [(⟨n, .pointer (some ⟨w.heap.size, 0, none⟩), c⟩ : Ent ByteArray)]).map (Ent.raw Value.string)).toArray (c + 1))) (Foot p r (fs ++ [⟨n, c, w.heap.size, .slice none 0 0, [], 0⟩])) := by
  have hrl := lt_of_getElem? hm
  have hne := fileOf_none hn
  generalize hw2 : setO (w.alloc (.cells #[.slice none 0 0, .int .i64 0] 77)) r (.map (((fs.map Fe.ent) ++ [(⟨n, .pointer (some ⟨w.heap.size, 0, none⟩), c⟩ : Ent ByteArray)]).map (Ent.raw Value.string)).toArray (c + 1)) = w2
  have ho : ∀ b, b < w.heap.size → b ≠ r → w2.heap[b]? = w.heap[b]? := fun b hb hbr => by
    rw [← hw2, setO_other hbr]; exact heap_alloc_old _ _ hb
  have hr2 : MapAt w2 r Value.string ((fs ++ [(⟨n, c, w.heap.size, .slice none 0 0, [], 0⟩ : Fe)]).map Fe.ent) (c + 1) := by
    rw [← hw2]
    unfold MapAt
    rw [setO_same (by simp; omega)]
    simp [Fe.ent]
  have hnew : w2.heap[w.heap.size]? = some (.cells #[.slice none 0 0, .int .i64 0] 77 (0, 0)) := by
    rw [← hw2, setO_other (by omega)]; exact heap_alloc_new _ _
  have hsz : w2.heap.size = w.heap.size + 1 := by rw [← hw2]; simp [setO]
  refine ⟨⟨(ho p (lt_of_getElem? h.self) h.p_ne_r).trans h.self, ⟨c + 1, hr2, fun f hf => ?_⟩, ?_, ?_, ?_, ?_, ?_, h.base.1, h.base.2.1, by have := h.base.2.2; omega⟩, ⟨by rw [← hw2]; rfl, by rw [← hw2]; rfl, by rw [← hw2]; rfl, by omega, fun b hb hnf => ho b hb (fun e => hnf (.inr (.inl e))), ?_⟩⟩
  · rcases List.mem_append.1 hf with h1 | h1
    · have := hc f h1; omega
    · obtain rfl := List.mem_singleton.1 h1; simp
  · rw [List.map_append]
    refine List.nodup_append.2 ⟨h.names, by simp, fun a ha b hb => ?_⟩
    simp only [List.map_cons, List.map_nil, List.mem_singleton] at hb
    subst hb
    obtain ⟨f, hf, rfl⟩ := List.mem_map.1 ha
    exact Ne.symm (hne f hf)
  · rw [List.map_append]
    refine List.nodup_append.2 ⟨h.borns, by simp, fun a ha b hb => ?_⟩
    simp only [List.map_cons, List.map_nil, List.mem_singleton] at hb
    subst hb
    obtain ⟨f, hf, rfl⟩ := List.mem_map.1 ha
    have := hc f hf
    omega
  · rw [List.map_append]
    refine List.nodup_append.2 ⟨h.fbs, by simp, fun a ha b hb => ?_⟩
    simp only [List.map_cons, List.map_nil, List.mem_singleton] at hb
    subst hb
    obtain ⟨f, hf, rfl⟩ := List.mem_map.1 ha
    have := lt_of_getElem? (h.files f hf).cell
    omega
  · intro f hf g hg b hb1 hb2
    rcases List.mem_append.1 hf with h1 | h1
    · rcases List.mem_append.1 hg with h2 | h2
      · exact h.rows f h1 g h2 b hb1 hb2
      · obtain rfl := List.mem_singleton.1 h2; cases hb2
    · obtain rfl := List.mem_singleton.1 h1; cases hb1
  · intro f hf
    rcases List.mem_append.1 hf with h1 | h1
    · have hfa := h.files f h1
      exact ⟨(ho _ (lt_of_getElem? hfa.cell) (h.fb_ne h1).2).trans hfa.cell, hfa.row.keep (fun b hb => ho b (hfa.row.lt hb).2 (h.row_ne h1 hb).2.1), hfa.base, hfa.sync⟩
    · obtain rfl := List.mem_singleton.1 h1
      exact ⟨hnew, row1_nil _ _ _, h.base.2.2, Nat.le_refl _⟩
  · rintro b (rfl | rfl | ⟨f, hf, hb⟩)
    · exact .inl (.inl rfl)
    · exact .inl (.inr (.inl rfl))
    · rcases List.mem_append.1 hf with h1 | h1
      · exact .inl (.inr (.inr ⟨f, h1, hb⟩))
      · obtain rfl := List.mem_singleton.1 h1
        rcases hb with rfl | hb
        · exact .inr (Nat.le_refl _)
        · cases hb

/-- A file's slice and its bytes are laid. -/
def putF (n : ByteArray) (v : Value) (x : List UInt8) (s : Nat) (fs : List Fe) : List Fe := fs.map fun g => if g.name = n then { g with bv := v, b := x, synced := s } else g

theorem putF_mem {n : ByteArray} {v : Value} {x : List UInt8} {s : Nat} {g : Fe} (h : g ∈ putF n v x s fs) : ∃ g0 ∈ fs, g.name = g0.name ∧ g.fb = g0.fb ∧ g.born = g0.born ∧ ((g0.name = n ∧ g.bv = v ∧ g.b = x ∧ g.synced = s) ∨ (g0.name ≠ n ∧ g = g0)) := by
  obtain ⟨g0, h0, rfl⟩ := List.mem_map.1 h
  refine ⟨g0, h0, ?_⟩
  by_cases hn : g0.name = n
  · rw [if_pos hn]; exact ⟨rfl, rfl, rfl, .inl ⟨hn, rfl, rfl, rfl⟩⟩
  · rw [if_neg hn]; exact ⟨rfl, rfl, rfl, .inr ⟨hn, rfl⟩⟩
theorem putF_ent (n : ByteArray) (v : Value) (x : List UInt8) (s : Nat) (fs : List Fe) : (putF n v x s fs).map Fe.ent = fs.map Fe.ent := by
  unfold putF
  rw [List.map_map]
  refine List.map_congr_left fun g _ => ?_
  simp only [Function.comp]
  split <;> rfl
theorem putF_names (n : ByteArray) (v : Value) (x : List UInt8) (s : Nat) (fs : List Fe) : (putF n v x s fs).map Fe.name = fs.map Fe.name := by
  unfold putF
  rw [List.map_map]
  refine List.map_congr_left fun g _ => ?_
  simp only [Function.comp]
  split <;> rfl
theorem putF_borns (n : ByteArray) (v : Value) (x : List UInt8) (s : Nat) (fs : List Fe) : (putF n v x s fs).map Fe.born = fs.map Fe.born := by
  unfold putF
  rw [List.map_map]
  refine List.map_congr_left fun g _ => ?_
  simp only [Function.comp]
  split <;> rfl
theorem putF_fbs (n : ByteArray) (v : Value) (x : List UInt8) (s : Nat) (fs : List Fe) : (putF n v x s fs).map Fe.fb = fs.map Fe.fb := by
  unfold putF
  rw [List.map_map]
  refine List.map_congr_left fun g _ => ?_
  simp only [Function.comp]
  split <;> rfl

/-- A file gets a slice v (a row of its own, that may be new), as bytes x, with s synced: w1 has the row, w2 the cells of the file too. -/
theorem DiskAt.put (h : DiskAt B w p r size used born fs) {f : Fe} (hf : f ∈ fs) {w1 w2 : World} {v : Value} {x : List UInt8} {s : Nat} (hrow : OwnB B w1 v x) (hgr : w.grownBy w1 f.bv.ownBlock) (hown : ∀ b, v.ownBlock = some b → f.bv.ownBlock = some b ∨ w.heap.size ≤ b)
    (h2 : w2.heap[f.fb]? = some (.cells #[v, .int .i64 s] 77 (0, 0))) (h12 : w1.grownBy w2 (some f.fb)) (hs : s ≤ x.length) :
    DiskAt B w2 p r size used born (putF f.name v x s fs) ∧ Sep (Foot p r fs) w w2 (Foot p r (putF f.name v x s fs)) := by
  obtain ⟨c, hm, hc⟩ := h.map
  have ho : ∀ b, b < w.heap.size → f.bv.ownBlock ≠ some b → b ≠ f.fb → w2.heap[b]? = w.heap[b]? := fun b hb h1 h3 => by
    rw [h12.block b (Nat.lt_of_lt_of_le hb hgr.size) (fun e => h3 (Option.some.inj e)), hgr.block b hb (fun e => h1 e.symm)]
  have hpne : f.bv.ownBlock ≠ some p := fun e => (h.row_ne hf e).1 rfl
  have hrne : f.bv.ownBlock ≠ some r := fun e => (h.row_ne hf e).2.1 rfl
  have hvb : ∀ b, v.ownBlock = some b → b ≠ f.fb := fun b hb e => by
    rcases hown b hb with h1 | h1
    · exact (h.row_ne hf h1).2.2 f hf e
    · have := lt_of_getElem? (h.files f hf).cell; omega
  have hsz : w.heap.size ≤ w2.heap.size := Nat.le_trans hgr.size h12.size
  refine ⟨⟨(ho p (lt_of_getElem? h.self) hpne (Ne.symm (h.fb_ne hf).1)).trans h.self, ⟨c, by rw [putF_ent]; exact (ho r (lt_of_getElem? hm) hrne (Ne.symm (h.fb_ne hf).2)).trans hm, fun g hg => ?_⟩, by rw [putF_names]; exact h.names, by rw [putF_borns]; exact h.borns, by rw [putF_fbs]; exact h.fbs, ?_, ?_, h.base.1, h.base.2.1, Nat.le_trans h.base.2.2 hsz⟩,
    ⟨h12.os.trans hgr.os, h12.tape.trans hgr.tape, h12.output.trans hgr.output, hsz, fun b hb hn => ho b hb (fun e => hn (.inr (.inr ⟨f, hf, .inr e⟩))) (fun e => hn (.inr (.inr ⟨f, hf, .inl e⟩))), ?_⟩⟩
  · obtain ⟨g0, h0, _, _, hb, _⟩ := putF_mem hg
    rw [hb]; exact hc g0 h0
  · intro g hg g' hg' b hb1 hb2
    obtain ⟨g0, h0, hn0, hfb0, _, hc0⟩ := putF_mem hg
    obtain ⟨g1, h1, hn1, hfb1, _, hc1⟩ := putF_mem hg'
    rw [hn0, hn1]
    rcases hc0 with ⟨e0, hv0, _, _⟩ | ⟨e0, rfl⟩ <;> rcases hc1 with ⟨e1, hv1, _, _⟩ | ⟨e1, rfl⟩
    · rw [e0, e1]
    · exfalso
      rw [hv0] at hb1
      rcases hown b hb1 with h3 | h3
      · exact e1 (h.rows g' h1 f hf b hb2 h3)
      · have := ((h.files g' h1).row.lt hb2).2; omega
    · exfalso
      rw [hv1] at hb2
      rcases hown b hb2 with h3 | h3
      · exact e0 (h.rows g h0 f hf b hb1 h3)
      · have := ((h.files g h0).row.lt hb1).2; omega
    · exact h.rows g h0 g' h1 b hb1 hb2
  · intro g hg
    obtain ⟨g0, h0, hn0, hfb0, _, hc0⟩ := putF_mem hg
    rcases hc0 with ⟨e0, hv0, hb0, hs0⟩ | ⟨e0, rfl⟩
    · have hgf : g0 = f := name_inj h.names h0 hf e0
      subst hgf
      refine ⟨by rw [hfb0, hv0, hs0]; exact h2, ?_, by rw [hfb0]; exact (h.files g0 h0).base, by rw [hs0, hb0]; exact hs⟩
      rw [hv0, hb0]
      exact hrow.keep (fun b hb => h12.block b (hrow.lt hb).2 (fun e => hvb b hb (Option.some.inj e)))
    · have hfa := h.files g h0
      have hne : ∀ b, g.bv.ownBlock = some b → f.bv.ownBlock ≠ some b := fun b hb e => e0 (h.rows g h0 f hf b hb e)
      have hfbne : g.fb ≠ f.fb := fun e => e0 (by rw [fb_inj h.fbs h0 hf e])
      exact ⟨(ho _ (lt_of_getElem? hfa.cell) (fun e => (h.row_ne hf e).2.2 g h0 rfl) hfbne).trans hfa.cell, hfa.row.keep (fun b hb => ho b (hfa.row.lt hb).2 (hne b hb) ((h.row_ne h0 hb).2.2 f hf)), hfa.base, hfa.sync⟩
  · rintro b (rfl | rfl | ⟨g, hg, hb⟩)
    · exact .inl (.inl rfl)
    · exact .inl (.inr (.inl rfl))
    · obtain ⟨g0, h0, hn0, hfb0, _, hc0⟩ := putF_mem hg
      rcases hb with rfl | hb
      · exact .inl (.inr (.inr ⟨g0, h0, .inl hfb0⟩))
      · rcases hc0 with ⟨e0, hv0, _, _⟩ | ⟨e0, rfl⟩
        · rw [hv0] at hb
          rcases hown b hb with h3 | h3
          · exact .inl (.inr (.inr ⟨f, hf, .inr h3⟩))
          · exact .inr h3
        · exact .inl (.inr (.inr ⟨g, h0, .inr hb⟩))
end
end Go.Proofs.YtejpcoghkgjanaaGreatDoor

/- disk.Append of one part, of none. -/
namespace Go.Proofs.YtejpcoghkgjanaaGreatDoor
open Go.RowKit Go.Gl Go.Wal

theorem Bv.keep {w w' : World} {v : Value} {l : List UInt8} (h : Bv w v l) (hs : w.heap.size ≤ w'.heap.size) (hk : ∀ (b : Nat) (arr : Array Value) (t : TypeId) (f : Nat × Nat), w.heap[b]? = some (.cells arr t f) → w'.heap[b]? = w.heap[b]?) : Bv w' v l := by
  obtain ⟨a, c, hv, hl, hm, hn, h⟩ := h
  refine ⟨a, c, hv, hl, hm, hn, ?_⟩
  rcases h with h | ⟨b, o, ha, hb, hc⟩
  · exact .inl h
  · refine .inr ⟨b, o, ha, by omega, fun j k hj => ?_⟩
    have h1 := hc j k hj
    have : w'.heap[b]? = w.heap[b]? := by
      unfold World.cell? at h1
      split at h1
      · rename_i arr t f hbk
        exact hk b _ _ _ hbk
      · cases h1
    rw [← h1]
    simp only [World.cell?, this]

def appV (n : ByteArray) (x : List UInt8) (V : Vw) : Vw := if V.any (fun e => decide (e.1 = n)) = true then V.map (fun e => if e.1 = n then (e.1, e.2.1 ++ x, e.2.2) else e) else V ++ [(n, x, 0)]

theorem vw_put {fs : List Fe} (h : (fs.map Fe.name).Nodup) {f : Fe} (hf : f ∈ fs) (v : Value) (x : List UInt8) : vw (putF f.name v (f.b ++ x) f.synced fs) = appV f.name x (vw fs) := by
  unfold appV
  have hany : (vw fs).any (fun e => decide (e.1 = f.name)) = true := List.any_eq_true.2 ⟨_, List.mem_map.2 ⟨f, hf, rfl⟩, by simp⟩
  rw [if_pos hany]
  unfold vw putF
  rw [List.map_map, List.map_map]
  refine List.map_congr_left fun g hg => ?_
  simp only [Function.comp]
  by_cases hn : g.name = f.name
  · have := name_inj h hg hf hn
    subst this
    simp
  · simp [hn]

theorem vw_new {fs : List Fe} {n : ByteArray} (h : fileOf n fs = none) (c b : Nat) (v : Value) (x : List UInt8) : vw (fs ++ [(⟨n, c, b, v, x, 0⟩ : Fe)]) = appV n x (vw fs) := by
  unfold appV
  rw [if_neg]
  · simp [vw]
  · intro hc
    obtain ⟨e, he, h2⟩ := List.any_eq_true.1 hc
    obtain ⟨f, hf, rfl⟩ := List.mem_map.1 he
    exact fileOf_none h f hf (by simpa using h2 : f.name = n).symm

def AppPost (B : Nat) (w : World) (p r : Nat) (size used born : Int) (fs : List Fe) (n : ByteArray) (x : List UInt8) (e : Ending) (w' : World) : Prop :=
  e = .returned (.int .i64 0) ∧ ∃ fs', DiskAt B w' p r size (used + x.length) born fs' ∧ Sep (Foot p r fs) w w' (Foot p r fs') ∧ vw fs' = appV n x (vw fs)

set_option maxRecDepth 100000 in
set_option maxHeartbeats 4000000 in
theorem append1_some {B : Nat} {w : World} {p r : Nat} {size used born : Int} {fs : List Fe} (h : DiskAt B w p r size used born fs) {n : ByteArray} {f : Fe} (hfo : fileOf n fs = some f) (hn : NameOk n)
    {qb : Nat} {pv : Value} {x : List UInt8} (hq : w.heap[qb]? = some (.cells #[pv] 69 (0, 0))) (hx : Bv w pv x) (hu : 0 ≤ used) (hroom : used + x.length ≤ size) (hsz : size ≤ 1073741824) (hfl : f.b.length ≤ 1073741824) :
    Calls Tryz.prog 24 #[.pointer (some ⟨p, 0, none⟩), .string n, .slice (some ⟨qb, 0, none⟩) 1 1] w (AppPost B w p r size used born fs n x) := by
  obtain ⟨c0, c1, c2, c3⟩ := h.cells
  have lp := lt_of_getElem? h.self
  have p0 : w.cell? ⟨qb, 0, none⟩ = some pv := by simp [World.cell?, hq]
  have lq := lt_of_getElem? hq
  obtain ⟨xa, xc, rfl⟩ := hx.slice
  have hroom' : ¬ size < used + (x.length : Int) := by omega
  have hroom2 : decide (size < used + (x.length : Int)) = false := by simpa using hroom
  have hw1 : IntKind.i64.wrap (used + (x.length : Int)) = used + (x.length : Int) := IntWalk.i64_in _ (by omega)
  have H := Lib.hid h
  have Hx := Lib.hid hx
  have Hfo := Lib.hid hfo
  have Hq := Lib.hid hq
  have hcl := Grow.cells (w := w)
  clear h hx hfo hq
  go_enter Tryz.func24, Tryz.ntmps24
  go_wp2_with fail
  refine wp_loop_rounds 2 ?_
  rw [rounds_succ]
  go_wp2_with fail
  rw [rounds_succ]
  go_wp2_with ((with_reducible refine (name_ok hn _).mono ?_); rintro e w1 ⟨rfl, hw⟩; have hw' := hw.symm; subst hw'; clear hw)
  refine wp_region_pi (fun W => Below w.heap.size w W) [(0, false), (1, false), (2, false), (3, false), (4, false), (5, false), (6, false), (7, false), (8, false), (9, false), (10, false), (11, false)] (by kernel_rfl) (by kernel_rfl) (fun c a d v w h => by cases d <;> exact h) (Grow.drew _) ?_
  simp only [arrange, nth]
  repeat (first | (refine wpPi_quiet (v := ?_) (by rfl) (fun W hW => ?_) ?_; rotate_left; (obtain hW := hW; go_simp; with_reducible rfl); simp only [Act.put, List.setIfInBounds_toArray, List.set_cons_zero, List.set_cons_succ]) | (refine wpPi_off (by rfl) ?_; simp only [Act.put, List.setIfInBounds_toArray, List.set_cons_zero, List.set_cons_succ]))
  refine wpPi_nil ?_
  have hgd : Grow w w.drew := Grow.drew w
  have h1 := H.out.grow hgd
  have hx1 := Hx.out.grow hgd
  have Hq1 := Lib.hid (hgd.heap Hq.out)
  clear c0 c1 c2 c3 lp p0 lq hcl
  have hd : w.drew = w.drew := rfl
  generalize hw1d : w.drew = w1 at *
  clear hd
  have hlk := h1.lookup n
  obtain ⟨c0, c1, c2, c3⟩ := h1.cells
  have lp := lt_of_getElem? h1.self
  obtain ⟨hm, hnm⟩ := fileOf_some Hfo.out
  simp only [fileVal, Hfo.out] at hlk
  have hfa := h1.files f hm
  have p0 : w1.cell? ⟨qb, 0, none⟩ = some (.slice xa x.length xc) := by simp [World.cell?, Hq1.out]
  have lq := lt_of_getElem? Hq1.out
  obtain ⟨v', w2, r1, r2, r3, r4⟩ := append_bytes hfa.row hx1 h1.base.2.2 (by omega)
  obtain ⟨va', vc', rfl⟩ := r2.slice
  obtain ⟨ba, bc, hbv⟩ := hfa.row.slice
  have q0 : w1.cell? ⟨f.fb, 0, none⟩ = some (.slice ba (bcells f.b).length bc) := by simp [World.cell?, hfa.cell, hbv]
  have lf := lt_of_getElem? hfa.cell
  have hfne : f.bv.ownBlock ≠ some f.fb := fun e => (h1.row_ne hm e).2.2 f hm rfl
  have hcell2 : w2.heap[f.fb]? = some (.cells #[f.bv, .int .i64 f.synced] 77 (0, 0)) := by rw [r3.block _ lf (fun e => hfne e.symm)]; exact hfa.cell
  have hput := h1.put hm (w2 := w2.setCell ⟨f.fb, 0, none⟩ (.slice va' (bcells (f.b ++ x)).length vc')) (s := f.synced) r2 r3 (fun b hb => by
    rcases r4 with h3 | h3
    · exact .inl (h3 ▸ hb)
    · rw [h3] at hb; cases hb; exact .inr (Nat.le_refl _)) (setCell_heap hcell2 0 _) (grown_setCell _ _ _ _) (by have := hfa.sync; simp; omega)
  obtain ⟨hd2, hs2⟩ := hput
  obtain ⟨hd3, hs3⟩ := hd2.setUsed (used + x.length)
  have Hpost : Hid (AppPost B w p r size used born fs n x (.returned (.int .i64 0)) ((w2.setCell ⟨f.fb, 0, none⟩ (.slice va' (bcells (f.b ++ x)).length vc')).setCell ⟨p, 1, none⟩ (.int .i64 (used + x.length)))) := Lib.hid ⟨rfl, _, hd3, ((Sep.ofGrow hgd).trans hs2).trans hs3, by rw [vw_put H.out.names hm, hnm]⟩
  obtain ⟨e0, e1, e2, e3⟩ := hd2.cells
  have l2 := lt_of_getElem? hcell2
  have lp2 := lt_of_getElem? hd2.self
  have f2 : ∀ i, w2.frozen? ⟨f.fb, i, none⟩ = false := fun i => by simp [World.frozen?, hcell2]
  have z0 : w2.cell? ⟨f.fb, 0, none⟩ = some f.bv := by simp [World.cell?, hcell2]
  have f3 : ∀ i, (w2.setCell ⟨f.fb, 0, none⟩ (.slice va' (bcells (f.b ++ x)).length vc')).frozen? ⟨p, i, none⟩ = false := fun i => by simp [World.frozen?, hd2.self]
  rw [hbv] at r1
  have Hrun := Lib.hid r1
  clear r1 r2 r3 r4 hd2 hs2 hd3 hs3 hcell2 hfa hbv h1 hx1 hm hnm hw1d hgd
  go_wp2_with fail
  refine wp_loop_rounds 2 ?_
  rw [rounds_succ]
  go_wp2_with (at_builtin; refine wpList_append rfl rfl rfl rfl Hrun.out ?_)
  rw [rounds_succ]
  go_wp2
  go_ret
  exact Hpost.out

set_option maxRecDepth 100000 in
set_option maxHeartbeats 4000000 in
theorem append1_none {B : Nat} {w : World} {p r : Nat} {size used born : Int} {fs : List Fe} (h : DiskAt B w p r size used born fs) {n : ByteArray} (hfo : fileOf n fs = none) (hn : NameOk n)
    {qb : Nat} {pv : Value} {x : List UInt8} (hq : w.heap[qb]? = some (.cells #[pv] 69 (0, 0))) (hx : Bv w pv x) (hu : 0 ≤ used) (hroom : used + x.length ≤ size) (hsz : size ≤ 1073741824) :
    Calls Tryz.prog 24 #[.pointer (some ⟨p, 0, none⟩), .string n, .slice (some ⟨qb, 0, none⟩) 1 1] w (AppPost B w p r size used born fs n x) := by
  obtain ⟨c0, c1, c2, c3⟩ := h.cells
  have lp := lt_of_getElem? h.self
  have p0 : w.cell? ⟨qb, 0, none⟩ = some pv := by simp [World.cell?, hq]
  have lq := lt_of_getElem? hq
  obtain ⟨xa, xc, rfl⟩ := hx.slice
  have hroom' : ¬ size < used + (x.length : Int) := by omega
  have hroom2 : decide (size < used + (x.length : Int)) = false := by simpa using hroom
  have hw1 : IntKind.i64.wrap (used + (x.length : Int)) = used + (x.length : Int) := IntWalk.i64_in _ (by omega)
  have H := Lib.hid h
  have Hx := Lib.hid hx
  have Hfo := Lib.hid hfo
  have Hq := Lib.hid hq
  have hcl := Grow.cells (w := w)
  clear h hx hfo hq
  go_enter Tryz.func24, Tryz.ntmps24
  go_wp2_with fail
  refine wp_loop_rounds 2 ?_
  rw [rounds_succ]
  go_wp2_with fail
  rw [rounds_succ]
  go_wp2_with ((with_reducible refine (name_ok hn _).mono ?_); rintro e w1 ⟨rfl, hw⟩; have hw' := hw.symm; subst hw'; clear hw)
  refine wp_region_pi (fun W => Below w.heap.size w W) [(0, false), (1, false), (2, false), (3, false), (4, false), (5, false), (6, false), (7, false), (8, false), (9, false), (10, false), (11, false)] (by kernel_rfl) (by kernel_rfl) (fun c a d v w h => by cases d <;> exact h) (Grow.drew _) ?_
  simp only [arrange, nth]
  repeat (first | (refine wpPi_quiet (v := ?_) (by rfl) (fun W hW => ?_) ?_; rotate_left; (obtain hW := hW; go_simp; with_reducible rfl); simp only [Act.put, List.setIfInBounds_toArray, List.set_cons_zero, List.set_cons_succ]) | (refine wpPi_off (by rfl) ?_; simp only [Act.put, List.setIfInBounds_toArray, List.set_cons_zero, List.set_cons_succ]))
  refine wpPi_nil ?_
  have hgd : Grow w w.drew := Grow.drew w
  have h1 := H.out.grow hgd
  have hx1 := Hx.out.grow hgd
  have Hq1 := Lib.hid (hgd.heap Hq.out)
  clear c0 c1 c2 c3 lp p0 lq hcl
  generalize hw1d : w.drew = w1 at *
  have hlk := h1.lookup n
  obtain ⟨c0, c1, c2, c3⟩ := h1.cells
  have lp := lt_of_getElem? h1.self
  simp only [fileVal, Hfo.out] at hlk
  obtain ⟨ck, hmap, hck⟩ := h1.map
  obtain ⟨hd2, hs2⟩ := h1.newFile Hfo.out hmap hck
  have hga : Grow w1 (w1.alloc (.cells #[.slice none 0 0, .int .i64 0] 77)) := Grow.alloc _ _
  have hupd := run_mapUpdate_new keyOkS Tryz.underlying54 (hga.heap hmap) n (.pointer (some ⟨w1.heap.size, 0, none⟩)) (fun e he => by
    obtain ⟨f, hf, rfl⟩ := List.mem_map.1 he
    exact fileOf_none Hfo.out f hf)
  have hga3 : (w1.alloc (.cells #[.slice none 0 0, .int .i64 0] 77)).cell? ⟨p, 3, none⟩ = some (.map (some r)) := by rw [World.cell?_alloc_lt _ _ _ lp]; exact c3
  have hro : ∀ (b : Nat) (arr : Array Value) (t : TypeId) (f : Nat × Nat), w1.heap[b]? = some (.cells arr t f) → (setO (w1.alloc (.cells #[.slice none 0 0, .int .i64 0] 77)) r (.map (((fs.map Fe.ent) ++ [(⟨n, .pointer (some ⟨w1.heap.size, 0, none⟩), ck⟩ : Ent ByteArray)]).map (Ent.raw Value.string)).toArray (ck + 1))).heap[b]? = w1.heap[b]? := fun b arr t f hb => by
    rw [setO_other (fun e => by rw [e, hmap] at hb; cases hb)]
    exact heap_alloc_old _ _ (lt_of_getElem? hb)
  have hx2 := hx1.keep (by simp [setO]) hro
  have hq2 := (hro _ _ _ _ Hq1.out).trans Hq1.out
  have hq2' := hq2
  clear hro
  have lp1 : p < (w1.alloc (.cells #[.slice none 0 0, .int .i64 0] 77)).heap.size := Nat.lt_of_lt_of_le lp hga.size
  generalize hw2d : setO (w1.alloc (.cells #[.slice none 0 0, .int .i64 0] 77)) r (.map (((fs.map Fe.ent) ++ [(⟨n, .pointer (some ⟨w1.heap.size, 0, none⟩), ck⟩ : Ent ByteArray)]).map (Ent.raw Value.string)).toArray (ck + 1)) = w2 at *
  clear hw2d
  have Hs2 := Lib.hid ((Sep.ofGrow hgd).trans hs2)
  have Hd2 := Lib.hid hd2
  have Hx2 := Lib.hid hx2
  have Hq2 := Lib.hid hq2
  clear hmap hck h1 hx1 hs2 hd2 hx2 hq2 hga hw1d hgd Hq1
  go_upto_region 15 with fail
  clear hupd hga3 lp1 c0 c1 c2 c3 lp hlk
  generalize w1.heap.size = fb at *
  have hd2 := Hd2.out
  have hm : (⟨n, ck, fb, .slice none 0 0, [], 0⟩ : Fe) ∈ fs ++ [(⟨n, ck, fb, .slice none 0 0, [], 0⟩ : Fe)] := by simp
  have hfa := hd2.files _ hm
  have p0 : w2.cell? ⟨qb, 0, none⟩ = some (.slice xa x.length xc) := by simp [World.cell?, Hq2.out]
  have lq := lt_of_getElem? Hq2.out
  obtain ⟨v', w3, r1, r2, r3, r4⟩ := append_bytes hfa.row Hx2.out hd2.base.2.2 (by simp; omega)
  obtain ⟨va', vc', rfl⟩ := r2.slice
  have hcf : w2.heap[fb]? = some (.cells #[.slice none 0 0, .int .i64 0] 77 (0, 0)) := hfa.cell
  have q0 : w2.cell? ⟨fb, 0, none⟩ = some (.slice none 0 0) := by simp [World.cell?, hcf]
  have lf := lt_of_getElem? hcf
  have hcell3 : w3.heap[fb]? = some (.cells #[.slice none 0 0, .int .i64 0] 77 (0, 0)) := by rw [r3.block _ lf (fun e => by cases e)]; exact hcf
  obtain ⟨hd3, hs3⟩ := hd2.put hm (w2 := w3.setCell ⟨fb, 0, none⟩ (.slice va' (bcells ([] ++ x)).length vc')) (s := 0) r2 r3 (fun b hb => by
    rcases r4 with h3 | h3
    · exact .inl (h3 ▸ hb)
    · rw [h3] at hb; cases hb; exact .inr (Nat.le_refl _)) (setCell_heap hcell3 0 _) (grown_setCell _ _ _ _) (Nat.zero_le _)
  obtain ⟨hd4, hs4⟩ := hd3.setUsed (used + x.length)
  have hvw : vw (putF n (.slice va' (bcells ([] ++ x)).length vc') ([] ++ x) 0 (fs ++ [(⟨n, ck, fb, .slice none 0 0, [], 0⟩ : Fe)])) = appV n x (vw fs) := by
    rw [← vw_new Hfo.out ck fb (.slice none 0 0) x]
    unfold vw putF
    rw [List.map_map, List.map_append, List.map_append]
    congr 1
    · refine List.map_congr_left fun g hg => ?_
      have : g.name ≠ n := Ne.symm (fileOf_none Hfo.out g hg)
      simp [Function.comp, this]
    · simp
  have Hpost : Hid (AppPost B w p r size used born fs n x (.returned (.int .i64 0)) ((w3.setCell ⟨fb, 0, none⟩ (.slice va' (bcells ([] ++ x)).length vc')).setCell ⟨p, 1, none⟩ (.int .i64 (used + x.length)))) := Lib.hid ⟨rfl, _, hd4, (Hs2.out.trans hs3).trans hs4, hvw⟩
  generalize hln : (bcells ([] ++ x)).length = ln at *
  obtain ⟨e0, e1, e2, e3⟩ := hd3.cells
  have l2 := lt_of_getElem? hcell3
  have lp2 := lt_of_getElem? hd3.self
  have f2 : ∀ i, w3.frozen? ⟨fb, i, none⟩ = false := fun i => by simp [World.frozen?, hcell3]
  have z0 : w3.cell? ⟨fb, 0, none⟩ = some (.slice none 0 0) := by simp [World.cell?, hcell3]
  have f3 : ∀ i, (w3.setCell ⟨fb, 0, none⟩ (.slice va' ln vc')).frozen? ⟨p, i, none⟩ = false := fun i => by simp [World.frozen?, hd3.self]
  have Hrun := Lib.hid r1
  clear r1 r2 r3 r4 hd2 hd3 hs3 hd4 hs4 hcell3 hfa hm hcf hvw hln
  go_wp2_with fail
  refine wp_loop_rounds 2 ?_
  rw [rounds_succ]
  go_wp2_with (at_builtin; refine wpList_append rfl rfl rfl rfl Hrun.out ?_)
  rw [rounds_succ]
  go_wp2
  go_ret
  exact Hpost.out
end Go.Proofs.YtejpcoghkgjanaaGreatDoor

/- disk.Append of no part: a new file. -/
namespace Go.Proofs.YtejpcoghkgjanaaGreatDoor
open Go.RowKit Go.Gl Go.Wal

set_option maxRecDepth 100000 in
set_option maxHeartbeats 4000000 in
theorem append0_none {B : Nat} {w : World} {p r : Nat} {size used born : Int} {fs : List Fe} (h : DiskAt B w p r size used born fs) {n : ByteArray} (hfo : fileOf n fs = none) (hn : NameOk n)
    (hu : 0 ≤ used) (hroom : used ≤ size) (hsz : size ≤ 1073741824) :
    Calls Tryz.prog 24 #[.pointer (some ⟨p, 0, none⟩), .string n, .slice none 0 0] w fun e w' => e = .returned (.int .i64 0) ∧ ∃ fs', DiskAt B w' p r size used born fs' ∧ Sep (Foot p r fs) w w' (Foot p r fs') ∧ vw fs' = vw fs ++ [(n, [], 0)] := by
  obtain ⟨c0, c1, c2, c3⟩ := h.cells
  have lp := lt_of_getElem? h.self
  have hroom' : ¬ size < used := by omega
  have hroom2 : decide (size < used) = false := by simpa using hroom
  have hw1 : IntKind.i64.wrap used = used := IntWalk.i64_in _ (by omega)
  have H := Lib.hid h
  have Hfo := Lib.hid hfo
  have hcl := Grow.cells (w := w)
  clear h hfo
  go_enter Tryz.func24, Tryz.ntmps24
  go_wp2_with fail
  refine wp_loop_rounds 1 ?_
  rw [rounds_succ]
  go_wp2_with ((with_reducible refine (name_ok hn _).mono ?_); rintro e w1 ⟨rfl, hw⟩; have hw' := hw.symm; subst hw'; clear hw)
  refine wp_region_pi (fun W => Below w.heap.size w W) [(0, false), (1, false), (2, false), (3, false), (4, false), (5, false), (6, false), (7, false), (8, false), (9, false), (10, false), (11, false)] (by kernel_rfl) (by kernel_rfl) (fun c a d v w h => by cases d <;> exact h) (Grow.drew _) ?_
  simp only [arrange, nth]
  repeat (first | (refine wpPi_quiet (v := ?_) (by rfl) (fun W hW => ?_) ?_; rotate_left; (obtain hW := hW; go_simp; with_reducible rfl); simp only [Act.put, List.setIfInBounds_toArray, List.set_cons_zero, List.set_cons_succ]) | (refine wpPi_off (by rfl) ?_; simp only [Act.put, List.setIfInBounds_toArray, List.set_cons_zero, List.set_cons_succ]))
  refine wpPi_nil ?_
  have hgd : Grow w w.drew := Grow.drew w
  have h1 := H.out.grow hgd
  clear c0 c1 c2 c3 lp hcl
  generalize hw1d : w.drew = w1 at *
  have hlk := h1.lookup n
  obtain ⟨c0, c1, c2, c3⟩ := h1.cells
  have lp := lt_of_getElem? h1.self
  simp only [fileVal, Hfo.out] at hlk
  obtain ⟨ck, hmap, hck⟩ := h1.map
  obtain ⟨hd2, hs2⟩ := h1.newFile Hfo.out hmap hck
  have hga : Grow w1 (w1.alloc (.cells #[.slice none 0 0, .int .i64 0] 77)) := Grow.alloc _ _
  have hupd := run_mapUpdate_new keyOkS Tryz.underlying54 (hga.heap hmap) n (.pointer (some ⟨w1.heap.size, 0, none⟩)) (fun e he => by
    obtain ⟨f, hf, rfl⟩ := List.mem_map.1 he
    exact fileOf_none Hfo.out f hf)
  have hga3 : (w1.alloc (.cells #[.slice none 0 0, .int .i64 0] 77)).cell? ⟨p, 3, none⟩ = some (.map (some r)) := by rw [World.cell?_alloc_lt _ _ _ lp]; exact c3
  have lp1 : p < (w1.alloc (.cells #[.slice none 0 0, .int .i64 0] 77)).heap.size := Nat.lt_of_lt_of_le lp hga.size
  generalize hw2d : setO (w1.alloc (.cells #[.slice none 0 0, .int .i64 0] 77)) r (.map (((fs.map Fe.ent) ++ [(⟨n, .pointer (some ⟨w1.heap.size, 0, none⟩), ck⟩ : Ent ByteArray)]).map (Ent.raw Value.string)).toArray (ck + 1)) = w2 at *
  clear hw2d
  obtain ⟨hd4, hs4⟩ := hd2.setUsed used
  obtain ⟨e0, e1, e2, e3⟩ := hd2.cells
  have lp2 := lt_of_getElem? hd2.self
  have f3 : ∀ i, w2.frozen? ⟨p, i, none⟩ = false := fun i => by simp [World.frozen?, hd2.self]
  have Hpost : Hid (∃ fs', DiskAt B (w2.setCell ⟨p, 1, none⟩ (.int .i64 used)) p r size used born fs' ∧ Sep (Foot p r fs) w (w2.setCell ⟨p, 1, none⟩ (.int .i64 used)) (Foot p r fs') ∧ vw fs' = vw fs ++ [(n, [], 0)]) := Lib.hid ⟨_, hd4, ((Sep.ofGrow hgd).trans hs2).trans hs4, by simp [vw]⟩
  clear hmap hck h1 hs2 hd2 hga hw1d hgd hd4 hs4
  go_wp2_with fail
  refine wp_loop_rounds 1 ?_
  rw [rounds_succ]
  go_wp2
  go_ret
  exact ⟨rfl, Hpost.out⟩
end Go.Proofs.YtejpcoghkgjanaaGreatDoor

/- disk.all at one name. -/
namespace Go.Proofs.YtejpcoghkgjanaaGreatDoor
open Go.RowKit Go.Gl Go.Wal

theorem allClo_any {B : Nat} {w : World} {p r : Nat} {size used born : Int} {fs : List Fe} (h : DiskAt B w p r size used born fs) (n : ByteArray) {bx : Nat} (hb : w.heap[bx]? = some (.cells #[.pointer (some ⟨p, 0, none⟩)] 26 (0, 0))) :
    Calls Tryz.prog 82 #[.string n, .pointer (some ⟨bx, 0, none⟩)] w fun e w' => e = .returned (.bool (fileOf n fs).isNone) ∧ w' = w := by
  have hlk := h.lookup n
  obtain ⟨c0, c1, c2, c3⟩ := h.cells
  have lp := lt_of_getElem? h.self
  have b0 : w.cell? ⟨bx, 0, none⟩ = some (.pointer (some ⟨p, 0, none⟩)) := by simp [World.cell?, hb]
  have lb := lt_of_getElem? hb
  cases hf : fileOf n fs with
  | none =>
    simp only [fileVal, hf] at hlk
    clear hf
    go_enter Tryz.func82, Tryz.ntmps82
    go_wp2
    go_ret
    exact ⟨rfl, rfl⟩
  | some f =>
    simp only [fileVal, hf] at hlk
    clear hf
    go_enter Tryz.func82, Tryz.ntmps82
    go_wp2
    go_ret
    exact ⟨rfl, rfl⟩

/-- slices.ContainsFunc at one text. -/
theorem contains1 {w : World} {n : ByteArray} {qb : Nat} (hq : w.heap[qb]? = some (.cells #[.string n] 9 (0, 0))) {fn : FuncId} {fv : Value} {b : Bool} (hfn : ∃ F, Tryz.prog.funcs[fn]? = some F ∧ F.params.size = 1)
    (hc : Calls Tryz.prog fn #[.string n, fv] w fun e w' => e = .returned (.bool b) ∧ w' = w) (henter : ∀ args w, (callFunc fn args).run Tryz.prog w = .ok (.enter fn args) w) :
    Calls Tryz.prog 37 #[.slice (some ⟨qb, 0, none⟩) 1 1, .func (.func fn) #[] #[fv]] w fun e w' => e = .returned (.bool b) ∧ w' = w := by
  have q0 : w.cell? ⟨qb, 0, none⟩ = some (.string n) := by simp [World.cell?, hq]
  have lq := lt_of_getElem? hq
  have hidx : Calls Tryz.prog 73 #[.slice (some ⟨qb, 0, none⟩) 1 1, .func (.func fn) #[] #[fv]] w fun e w' => e = .returned (.int .i64 (if b then 0 else -1)) ∧ w' = w := by
    have Hc := Lib.hid hc
    clear hc hq
    go_enter Tryz.func73, Tryz.ntmps73
    go_wp2_with fail
    refine wp_loop_rounds 2 ?_
    rw [rounds_succ]
    go_wp2_with fail
    (with_reducible refine Hc.out.mono ?_)
    rintro e w1 ⟨rfl, hw⟩
    have hw' := hw.symm
    subst hw'
    clear hw
    cases b with
    | true =>
      go_wp2
      go_ret
      exact ⟨rfl, rfl⟩
    | false =>
      go_wp2_with fail
      rw [rounds_succ]
      go_wp2
      go_ret
      exact ⟨rfl, rfl⟩
  have Hidx := Lib.hid hidx
  clear hidx hc hq
  go_enter Tryz.func37, Tryz.ntmps37
  go_wp2_with fail
  (with_reducible refine Hidx.out.mono ?_)
  rintro e w1 ⟨rfl, hw⟩
  have hw' := hw.symm
  subst hw'
  clear hw
  cases b <;> (go_wp2; go_ret; exact ⟨rfl, rfl⟩)

set_option maxRecDepth 100000 in
theorem all1 {B : Nat} {w : World} {p r : Nat} {size used born : Int} {fs : List Fe} (h : DiskAt B w p r size used born fs) (n : ByteArray) {qb : Nat} (hq : w.heap[qb]? = some (.cells #[.string n] 9 (0, 0))) :
    Calls Tryz.prog 44 #[.pointer (some ⟨p, 0, none⟩), .slice (some ⟨qb, 0, none⟩) 1 1] w fun e w' => e = .returned (.bool (fileOf n fs).isSome) ∧ Grow w w' := by
  have hga : Grow w (w.alloc (.cells #[.pointer (some ⟨p, 0, none⟩)] 26)) := Grow.alloc _ _
  have hb1 := heap_alloc_new w (.cells #[.pointer (some ⟨p, 0, none⟩)] 26)
  have hcon := contains1 (hga.heap hq) (fn := 82) ⟨_, Tryz.func82, by kernel_rfl⟩ (allClo_any (h.grow hga) n hb1) (enters_of Tryz.func82 (by kernel_rfl) rfl)
  have Hcon := Lib.hid hcon
  have Hga := Lib.hid hga
  clear hcon hga hb1
  go_enter Tryz.func44, Tryz.ntmps44
  go_wp2_with fail
  (with_reducible refine Hcon.out.mono ?_)
  rintro e w1 ⟨rfl, hw⟩
  subst hw
  cases hf : fileOf n fs <;> (have Hf := Lib.hid hf; clear hf; go_wp2; go_ret; exact ⟨by rw [Hf.out]; rfl, Hga.out⟩)
end Go.Proofs.YtejpcoghkgjanaaGreatDoor

/- disk.Sync of one file that is there. -/
namespace Go.Proofs.YtejpcoghkgjanaaGreatDoor
open Go.RowKit Go.Gl Go.Wal

def synV (n : ByteArray) (V : Vw) : Vw := V.map (fun e => if e.1 = n then (e.1, e.2.1, e.2.1.length) else e)

theorem vw_sync {fs : List Fe} (h : (fs.map Fe.name).Nodup) {f : Fe} (hf : f ∈ fs) : vw (putF f.name f.bv f.b f.b.length fs) = synV f.name (vw fs) := by
  unfold synV vw putF
  rw [List.map_map, List.map_map]
  refine List.map_congr_left fun g hg => ?_
  simp only [Function.comp]
  by_cases hn : g.name = f.name
  · have := name_inj h hg hf hn
    subst this
    simp
  · simp [hn]

set_option maxRecDepth 100000 in
set_option maxHeartbeats 4000000 in
theorem sync1 {B : Nat} {w : World} {p r : Nat} {size used born : Int} {fs : List Fe} (h : DiskAt B w p r size used born fs) {n : ByteArray} {f : Fe} (hfo : fileOf n fs = some f) {qb : Nat} (hq : w.heap[qb]? = some (.cells #[.string n] 9 (0, 0))) (_hfl : f.b.length ≤ 1073741824) :
    Calls Tryz.prog 27 #[.pointer (some ⟨p, 0, none⟩), .slice (some ⟨qb, 0, none⟩) 1 1] w fun e w' => e = .returned (.int .i64 0) ∧ ∃ fs', DiskAt B w' p r size used born fs' ∧ Sep (Foot p r fs) w w' (Foot p r fs') ∧ vw fs' = synV n (vw fs) := by
  have hall := all1 h n hq
  rw [hfo] at hall
  have Hall := Lib.hid hall
  have H := Lib.hid h
  have Hfo := Lib.hid hfo
  have Hq := Lib.hid hq
  clear hall h hfo hq
  go_enter Tryz.func27, Tryz.ntmps27
  go_wp2_with fail
  (with_reducible refine Hall.out.mono ?_)
  rintro e w1 ⟨rfl, hg1⟩
  have h1 := H.out.grow hg1
  have hq1 := hg1.heap Hq.out
  have q0 : w1.cell? ⟨qb, 0, none⟩ = some (.string n) := by simp [World.cell?, hq1]
  have lq := lt_of_getElem? hq1
  have e0 : (Option.some f).isSome = true := rfl
  go_wp2_with fail
  refine wp_loop_rounds 2 ?_
  rw [rounds_succ]
  go_upto_region 6 with fail
  obtain ⟨hm, hnm⟩ := fileOf_some Hfo.out
  have hlk : ∀ W, Below w1.heap.size w1 W → (Instr.lookup 54 (.map (some r)) (.string n) false).run Tryz.prog W = .ok (.pointer (some ⟨f.fb, 0, none⟩)) W := fun W hW => by
    have := (h1.grow hW).lookup n
    simpa only [fileVal, Hfo.out] using this
  obtain ⟨c0, c1, c2, c3⟩ := h1.cells
  have lp := lt_of_getElem? h1.self
  have hfa := h1.files f hm
  obtain ⟨ba, bc, hbv⟩ := hfa.row.slice
  have z0 : w1.cell? ⟨f.fb, 0, none⟩ = some (.slice ba (bcells f.b).length bc) := by simp [World.cell?, hfa.cell, hbv]
  have z1 : w1.cell? ⟨f.fb, 1, none⟩ = some (.int .i64 f.synced) := by simp [World.cell?, hfa.cell]
  have lf := lt_of_getElem? hfa.cell
  have ff : ∀ i, w1.frozen? ⟨f.fb, i, none⟩ = false := fun i => by simp [World.frozen?, hfa.cell]
  have hcl := Grow.cells (w := w1)
  have hgd : Grow w1 w1.drew := Grow.drew w1
  have hd1 := h1.grow hgd
  have hrow : OwnB B w1.drew f.bv f.b := (hd1.files f hm).row
  obtain ⟨hd2, hs2⟩ := hd1.put hm (w1 := w1.drew) (w2 := w1.drew.setCell ⟨f.fb, 1, none⟩ (.int .i64 f.b.length)) (s := f.b.length) hrow ⟨rfl, rfl, rfl, Nat.le_refl _, fun _ _ _ => rfl⟩ (fun b hb => .inl hb) (setCell_heap (hd1.files f hm).cell 1 _) (grown_setCell _ _ _ _) (Nat.le_refl _)
  have hvw := vw_sync H.out.names hm
  rw [hnm] at hvw hd2 hs2
  have Hpost : Hid (∃ fs', DiskAt B (w1.drew.setCell ⟨f.fb, 1, none⟩ (.int .i64 f.b.length)) p r size used born fs' ∧ Sep (Foot p r fs) w (w1.drew.setCell ⟨f.fb, 1, none⟩ (.int .i64 f.b.length)) (Foot p r fs') ∧ vw fs' = synV n (vw fs)) := Lib.hid ⟨_, hd2, (Sep.ofGrow (hg1.trans hgd)).trans hs2, hvw⟩
  have hln : (bcells f.b).length = f.b.length := bcells_len _
  rw [hln] at z0
  clear hd2 hs2 hvw hrow hd1 hgd hfa hbv h1 hm hnm hln hq1 c0 c1 c2
  refine wp_region_last (fun W => Below w1.heap.size w1 W) [(0, false), (1, false), (2, false), (3, false), (4, false), (5, false), (6, false), (7, false), (8, false), (9, false), (10, false), (11, false), (12, false), (13, false), (14, false), (15, false), (16, false), (17, false)] 18 (by kernel_rfl) (by kernel_rfl) (fun c a d v w h => by cases d <;> exact h) (Grow.drew _) ?_
  simp only [arrange, nth]
  repeat (first | (refine wpPi_quiet (v := ?_) (by rfl) (fun W hW => ?_) ?_; rotate_left; (obtain hW := hW; go_simp; with_reducible rfl); simp only [Act.put, List.setIfInBounds_toArray, List.set_cons_zero, List.set_cons_succ]) | (refine wpPi_off (by rfl) ?_; simp only [Act.put, List.setIfInBounds_toArray, List.set_cons_zero, List.set_cons_succ]))
  refine wpPi_nil ?_
  refine lastQ_act (by rfl) (fun K hK => ?_)
  go_simp
  refine hK _ _ ?_
  clear hK K hlk hcl
  try simp only [Act.put, List.setIfInBounds_toArray, List.set_cons_zero, List.set_cons_succ]
  go_wp2_with fail
  rw [rounds_succ]
  go_wp2
  go_ret
  exact ⟨rfl, Hpost.out⟩
end Go.Proofs.YtejpcoghkgjanaaGreatDoor
