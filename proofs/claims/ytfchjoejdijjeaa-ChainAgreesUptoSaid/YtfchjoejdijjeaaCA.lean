/- Merged out of Gl, Gm, Gp, Gq, Gr, Gs, Gv: helpers. -/
import Derived.WalkKit
import Derived.WalkSpells
import Derived.WalkLawsBesides
import Derived.Deep.AppendSrc
import Derived.Deep.Draws
import Derived.OrdersHeld
import Derived.Deep.AppendLies
import Derived.Maps.RangeRun
set_option linter.unusedSimpArgs false
set_option linter.unusedVariables false
/- Generic lemmas, over any program: maps as lists of entries, with keys that can be compared without asking. -/
namespace Go.Gl
open Go.RowKit

/-- A block of one's own takes stores. -/
theorem frz {w : World} {b : Nat} {arr : Array Value} {t : TypeId} (h : w.heap[b]? = some (.cells arr t (0, 0))) (i : Nat) : w.frozen? ⟨b, i, none⟩ = false := by simp [World.frozen?, h]

section maps
variable {P : Program} {κ : Type} [DecidableEq κ]

/-- An entry of a map, as plain data: its key, its value, its stamp. -/
structure Ent (κ : Type) where
  key : κ
  val : Value
  born : Nat

def Ent.raw (enc : κ → Value) (e : Ent κ) : MapEntry := { key := enc e.key, val := e.val, born := e.born }

/-- Where the key is, with its value. -/
def findFrom (k : κ) : List (Ent κ) → Nat → Option (Nat × Value)
  | [], _ => none
  | e :: es, i => if k = e.key then some (i, e.val) else findFrom k es (i + 1)

/-- What the laws on maps ask of a key's type and of how keys are written as values. -/
structure KeyOk (P : Program) (kt : TypeId) (enc : κ → Value) : Prop where
  check : ∀ (b : Bool) (k : κ) (w : World), (Instr.checkKey b 10000 kt (enc k)).run P w = .ok () w
  find : ∀ (k : κ) (l : List (Ent κ)) (w : World), (Instr.findKey kt (enc k) (l.map (Ent.raw enc))).run P w = .ok (findFrom k l 0) w
  same : ∀ k : κ, Instr.sameBits 10000 (enc k) (enc k) = true

/-- A map's block, by its entries. -/
def MapAt (w : World) (r : Nat) (enc : κ → Value) (l : List (Ent κ)) (clock : Nat) : Prop :=
  w.heap[r]? = some (.map (l.map (Ent.raw enc)).toArray clock)

/-- The value at a key, or z. -/
def valAt (k : κ) (z : Value) (l : List (Ent κ)) : Value := ((l.find? (fun e => decide (k = e.key))).map Ent.val).getD z

theorem findFrom_none {k : κ} {l : List (Ent κ)} {i : Nat} : findFrom k l i = none ↔ ∀ e ∈ l, k ≠ e.key := by
  induction l generalizing i with
  | nil => simp [findFrom]
  | cons e es ih =>
    unfold findFrom
    by_cases h : k = e.key
    · simp [h]
    · simp [h, ih]

theorem findFrom_some {k : κ} {l : List (Ent κ)} {i j : Nat} {v : Value} (h : findFrom k l i = some (j, v)) :
    i ≤ j ∧ ∃ e, l[j - i]? = some e ∧ e.key = k ∧ e.val = v := by
  induction l generalizing i with
  | nil => simp [findFrom] at h
  | cons e es ih =>
    unfold findFrom at h
    by_cases hk : k = e.key
    · simp only [hk, if_true, Option.some.injEq, Prod.mk.injEq] at h
      obtain ⟨rfl, rfl⟩ := h
      exact ⟨Nat.le_refl _, e, by simp, hk.symm, rfl⟩
    · simp only [hk, if_false] at h
      obtain ⟨h1, e', h2, h3⟩ := ih h
      refine ⟨by omega, e', ?_, h3⟩
      rw [show j - i = (j - (i + 1)) + 1 by omega]
      simpa using h2

theorem findFrom_val (k : κ) (z : Value) (l : List (Ent κ)) (i : Nat) : ((findFrom k l i).map (·.2)).getD z = valAt k z l := by
  induction l generalizing i with
  | nil => simp [findFrom, valAt]
  | cons e es ih =>
    unfold findFrom
    by_cases h : k = e.key
    · simp [h, valAt]
    · simp [h, ih, valAt]

theorem run_getObj_map {w : World} {r : Nat} {es : Array MapEntry} {c : Nat} (h : w.heap[r]? = some (.map es c)) : (getObj r).run P w = .ok (.map es c) w := by
  simp [getObj, Sem.run, h]

theorem run_setObj_map {w : World} {r : Nat} {es : Array MapEntry} {c : Nat} (o : Obj) (h : w.heap[r]? = some (.map es c)) :
    (setObj r o).run P w = .ok () { w with heap := w.heap.setIfInBounds r o } := by
  simp [setObj, Sem.run, h]

theorem run_lookup {w : World} {t kt et : TypeId} {enc : κ → Value} (K : KeyOk P kt enc) (ht : P.underlying t = some (.map kt et)) {z : Value}
    (hz : (zeroValue et).run P w = .ok z w) {r : Nat} {l : List (Ent κ)} {c : Nat} (hm : MapAt w r enc l c) (k : κ) :
    (Instr.lookup t (.map (some r)) (enc k) false).run P w = .ok (valAt k z l) w := by
  rw [← findFrom_val k z l 0]
  cases hf : findFrom k l 0 with
  | none => simp [Instr.lookup, run_underlying ht, run_getObj_map hm, K.check, K.find, hf, hz, Result.andThen]
  | some p => simp [Instr.lookup, run_underlying ht, run_getObj_map hm, K.check, K.find, hf, Result.andThen]

/-- The same world but for one object. -/
def setO (w : World) (r : Nat) (o : Obj) : World := { w with heap := w.heap.setIfInBounds r o }

theorem setO_same {w : World} {r : Nat} {o : Obj} (h : r < w.heap.size) : (setO w r o).heap[r]? = some o := by
  simp [setO, h]
theorem setO_other {w : World} {r b : Nat} {o : Obj} (h : b ≠ r) : (setO w r o).heap[b]? = w.heap[b]? := by
  simp [setO, Array.getElem?_setIfInBounds_ne (Ne.symm h)]

/-- Set the value at a key that is there. -/
def putV (k : κ) (v : Value) (l : List (Ent κ)) : List (Ent κ) := l.map fun e => if k = e.key then { e with val := v } else e

theorem lt_of_getElem? {α : Type} {a : Array α} {i : Nat} {x : α} (h : a[i]? = some x) : i < a.size := by
  rcases Nat.lt_or_ge i a.size with h' | h'
  · exact h'
  · simp [Array.getElem?_eq_none h'] at h

theorem map_eraseIdx' {α β : Type} (f : α → β) (l : List α) (j : Nat) : (l.map f).eraseIdx j = (l.eraseIdx j).map f := by
  simp [List.eraseIdx_eq_take_drop_succ]

theorem nodup_idx {α : Type} {l : List α} (h : l.Nodup) {i j : Nat} {x : α} (hi : l[i]? = some x) (hj : l[j]? = some x) : i = j := by
  obtain ⟨hi', hi''⟩ := List.getElem?_eq_some_iff.1 hi
  obtain ⟨hj', hj''⟩ := List.getElem?_eq_some_iff.1 hj
  exact (List.getElem_inj h).1 (hi''.trans hj''.symm)

omit [DecidableEq κ] in
theorem key_idx {l : List (Ent κ)} (h : (l.map Ent.key).Nodup) {i j : Nat} {x y : Ent κ} (hi : l[i]? = some x) (hj : l[j]? = some y) (hxy : x.key = y.key) : i = j :=
  nodup_idx h (x := x.key) (by simp [hi]) (by simp [hj, hxy])

omit [DecidableEq κ] in
theorem key_mem {l : List (Ent κ)} (h : (l.map Ent.key).Nodup) {x y : Ent κ} (hi : x ∈ l) (hj : y ∈ l) (hxy : x.key = y.key) : x = y := by
  obtain ⟨i, hi⟩ := List.mem_iff_getElem?.1 hi
  obtain ⟨j, hj⟩ := List.mem_iff_getElem?.1 hj
  have := key_idx h hi hj hxy
  subst this
  exact Option.some.inj (hi.symm.trans hj)

theorem modify_putV {k : κ} {v : Value} {enc : κ → Value} {l : List (Ent κ)} (hn : (l.map Ent.key).Nodup) {j : Nat} {e : Ent κ} (hj : l[j]? = some e) (he : e.key = k)
    (f : MapEntry → MapEntry) (hf : f (e.raw enc) = ({ e with val := v } : Ent κ).raw enc) :
    ((l.map (Ent.raw enc)).toArray.modify j f) = ((putV k v l).map (Ent.raw enc)).toArray := by
  apply Array.ext'
  simp only [Array.toList_modify]
  apply List.ext_getElem?
  intro i
  rw [List.getElem?_modify]
  simp only [List.getElem?_map, putV]
  cases hi : l[i]? with
  | none => simp
  | some x =>
    simp only [Option.map_some]
    by_cases hij : j = i
    · subst hij
      have : x = e := Option.some.inj (hi.symm.trans hj)
      subst this
      simp [he, hf]
    · have hx : k ≠ x.key := by
        intro hk
        apply hij
        exact key_idx hn hj hi (he.trans hk)
      simp [hij, hx]


theorem run_mapUpdate_new {w : World} {t kt et : TypeId} {enc : κ → Value} (K : KeyOk P kt enc) (ht : P.underlying t = some (.map kt et))
    {r : Nat} {l : List (Ent κ)} {c : Nat} (hm : MapAt w r enc l c) (k : κ) (v : Value) (hk : ∀ e ∈ l, k ≠ e.key) :
    (Instr.mapUpdate t (.map (some r)) (enc k) v).run P w = .ok () (setO w r (.map ((l ++ [(⟨k, v, c⟩ : Ent κ)]).map (Ent.raw enc)).toArray (c + 1))) := by
  have hf : findFrom k l 0 = none := findFrom_none.2 hk
  simp [Instr.mapUpdate, run_underlying ht, run_getObj_map hm, K.check, K.find, hf, Result.andThen, run_setObj_map _ hm, setO, Ent.raw]

theorem run_mapUpdate_old {w : World} {t kt et : TypeId} {enc : κ → Value} (K : KeyOk P kt enc) (ht : P.underlying t = some (.map kt et))
    {r : Nat} {l : List (Ent κ)} {c : Nat} (hm : MapAt w r enc l c) (hn : (l.map Ent.key).Nodup) (k : κ) (v : Value) (hk : ∃ e ∈ l, k = e.key) :
    (Instr.mapUpdate t (.map (some r)) (enc k) v).run P w = .ok () (setO w r (.map ((putV k v l).map (Ent.raw enc)).toArray c)) := by
  cases hf : findFrom k l 0 with
  | none => obtain ⟨e, he, hke⟩ := hk; exact absurd hke (findFrom_none.1 hf e he)
  | some p =>
    obtain ⟨j, u⟩ := p
    obtain ⟨_, e, he, hek, _⟩ := findFrom_some hf
    simp only [Nat.sub_zero] at he
    have hj : j < l.length := (List.getElem?_eq_some_iff.1 he).1
    have hlj : l[j] = e := (List.getElem?_eq_some_iff.1 he).2
    have hs : Instr.sameBits 10000 (enc k) (enc k) = true := K.same k
    have hmod := modify_putV (v := v) (enc := enc) hn he hek (fun x => { x with key := enc k, val := v }) (by simp [Ent.raw, hek])
    simp [Instr.mapUpdate, run_underlying ht, run_getObj_map hm, K.check, K.find, hf, Result.andThen, Instr.keyThatStays, hj, hlj, Ent.raw, hek, hs, run_setObj_map _ hm, setO]
    have hmod' := congrArg Array.toList hmod
    simp only [Array.toList_modify] at hmod'
    rw [hmod']

theorem run_mapEntry_new {w : World} {t kt et : TypeId} {enc : κ → Value} (K : KeyOk P kt enc) (ht : P.underlying t = some (.map kt et)) {z : Value}
    (hz : (zeroValue et).run P w = .ok z w)
    {r : Nat} {l : List (Ent κ)} {c : Nat} (hm : MapAt w r enc l c) (k : κ) (hk : ∀ e ∈ l, k ≠ e.key) :
    (Instr.mapEntry t (.map (some r)) (enc k)).run P w = .ok (.tuple #[z, .int .i64 c]) (setO w r (.map ((l ++ [(⟨k, z, c⟩ : Ent κ)]).map (Ent.raw enc)).toArray (c + 1))) := by
  have hf : findFrom k l 0 = none := findFrom_none.2 hk
  simp [Instr.mapEntry, run_underlying ht, run_getObj_map hm, K.check, K.find, hf, hz, Result.andThen, run_setObj_map _ hm, setO, Ent.raw, goInt]

theorem run_mapEntry_old {w : World} {t kt et : TypeId} {enc : κ → Value} (K : KeyOk P kt enc) (ht : P.underlying t = some (.map kt et))
    {r : Nat} {l : List (Ent κ)} {c : Nat} (hm : MapAt w r enc l c) (hn : (l.map Ent.key).Nodup) (k : κ) {e : Ent κ} (hk : e ∈ l) (hek : e.key = k) :
    (Instr.mapEntry t (.map (some r)) (enc k)).run P w = .ok (.tuple #[e.val, .int .i64 e.born]) (setO w r (.map (l.map (Ent.raw enc)).toArray c)) := by
  cases hf : findFrom k l 0 with
  | none => exact absurd hek.symm (findFrom_none.1 hf e hk)
  | some p =>
    obtain ⟨j, u⟩ := p
    obtain ⟨_, e', he, hek', hu⟩ := findFrom_some hf
    simp only [Nat.sub_zero] at he
    have hj : j < l.length := (List.getElem?_eq_some_iff.1 he).1
    have hlj : l[j] = e' := (List.getElem?_eq_some_iff.1 he).2
    obtain rfl : e' = e := key_mem hn (List.mem_of_getElem? he) hk (hek'.trans hek.symm)
    have hs : Instr.sameBits 10000 (enc k) (enc k) = true := K.same k
    have hmod := modify_putV (v := e'.val) (enc := enc) hn he hek' (fun x => { x with key := enc k }) (by simp [Ent.raw, hek'])
    have hput : putV k e'.val l = l := by
      unfold putV
      conv => rhs; rw [← List.map_id l]
      apply List.map_congr_left
      intro x hx
      split
      · rename_i hkx
        have : x = e' := key_mem hn hx hk (hkx.symm.trans hek.symm)
        subst this; rfl
      · rfl
    rw [hput] at hmod
    simp [Instr.mapEntry, run_underlying ht, run_getObj_map hm, K.check, K.find, hf, Result.andThen, Instr.keyThatStays, hj, hlj, Ent.raw, hek', hs, run_setObj_map _ hm, setO, hu, goInt]
    have hmod' := congrArg Array.toList hmod
    simp only [Array.toList_modify] at hmod'
    rw [hmod']

theorem run_entryStore {w : World} {t : TypeId} {enc : κ → Value} 
    {r : Nat} {l : List (Ent κ)} {c : Nat} (hm : MapAt w r enc l c) (hn : (l.map Ent.key).Nodup) (hb : (l.map Ent.born).Nodup) (v : Value) {e : Ent κ} (hk : e ∈ l) :
    (Instr.entryStore t (.map (some r)) (.int .i64 e.born) v).run P w = .ok () (setO w r (.map ((putV e.key v l).map (Ent.raw enc)).toArray c)) := by
  obtain ⟨j, hj, hje⟩ := List.mem_iff_getElem.1 hk
  have hfi : ((l.map (Ent.raw enc)).toArray.findIdx? (fun x => ((x.born : Int)) == (e.born : Int))) = some j := by
    rw [List.findIdx?_toArray, List.findIdx?_eq_some_iff_getElem]
    refine ⟨by simpa using hj, by simp [hje, Ent.raw], ?_⟩
    intro i hi
    simp only [List.getElem_map, Ent.raw, Bool.not_eq_true, beq_eq_false_iff_ne, ne_eq]
    intro he
    have hil : i < l.length := by omega
    have : i = j := by
      refine nodup_idx hb (x := e.born) ?_ ?_
      · simp only [List.getElem?_map, List.getElem?_eq_getElem hil, Option.map_some, Option.some.injEq]; omega
      · simp only [List.getElem?_map, List.getElem?_eq_getElem hj, Option.map_some, hje]
    omega
  have hmod := modify_putV (k := e.key) (v := v) (enc := enc) hn (List.getElem?_eq_some_iff.2 ⟨hj, hje⟩) rfl (fun x => { x with val := v }) (by simp [Ent.raw])
  have hmod' := congrArg Array.toList hmod
  simp only [Array.toList_modify] at hmod'
  simp only [List.findIdx?_toArray] at hfi
  simp [Instr.entryStore, run_getObj_map hm, asInt, asIntOf, hfi, Result.andThen, run_setObj_map _ hm, setO, hmod']

theorem run_delete {w : World} {t kt et ty kt' : TypeId} {enc : κ → Value} (K : KeyOk P kt enc) (ht : P.underlying t = some (.map kt et))
    {r : Nat} {l : List (Ent κ)} {c : Nat} (hm : MapAt w r enc l c) (hn : (l.map Ent.key).Nodup) (k : κ) :
    (Builtin.delete_ #[t, kt'] ty #[.map (some r), enc k]).run P w = .ok (.tuple #[]) (setO w r (.map ((l.filter fun e => decide (k ≠ e.key)).map (Ent.raw enc)).toArray c)) := by
  cases hf : findFrom k l 0 with
  | none =>
    have hfl : (l.filter fun e => decide (k ≠ e.key)) = l := List.filter_eq_self.2 fun e he => by simpa using findFrom_none.1 hf e he
    rw [hfl]
    simp [Builtin.delete_, run_underlying ht, run_getObj_map hm, K.check, K.find, hf, Result.andThen, run_setObj_map _ hm, setO]
  | some p =>
    obtain ⟨j, u⟩ := p
    obtain ⟨_, e, he, hek, _⟩ := findFrom_some hf
    simp only [Nat.sub_zero] at he
    have hj : j < l.length := (List.getElem?_eq_some_iff.1 he).1
    have hlj : l[j] = e := (List.getElem?_eq_some_iff.1 he).2
    have hfl : (l.filter fun e => decide (k ≠ e.key)) = l.eraseIdx j := by
      have hsplit : l = l.take j ++ l[j] :: l.drop (j + 1) := by rw [List.getElem_cons_drop, List.take_append_drop]
      rw [List.eraseIdx_eq_take_drop_succ]
      conv => lhs; rw [hsplit]
      rw [List.filter_append, List.filter_cons]
      simp only [hlj, hek, ne_eq, not_true_eq_false, decide_false, Bool.false_eq_true, if_false]
      congr 1
      · apply List.filter_eq_self.2
        intro x hx
        obtain ⟨i, hi, hix⟩ := List.mem_iff_getElem.1 hx
        simp only [List.length_take] at hi
        simp only [decide_eq_true_eq]
        intro hkx
        have hil : i < l.length := by omega
        have : i = j := key_idx hn (x := l[i]) (y := l[j]) (by simp [hil]) (by simp [hj]) (by rw [hlj, hek, hkx, ← hix, List.getElem_take])
        omega
      · apply List.filter_eq_self.2
        intro x hx
        obtain ⟨i, hi, hix⟩ := List.mem_iff_getElem.1 hx
        simp only [List.length_drop] at hi
        simp only [decide_eq_true_eq]
        intro hkx
        have hil : j + 1 + i < l.length := by omega
        have : j + 1 + i = j := key_idx hn (x := l[j + 1 + i]) (y := l[j]) (by simp [hil]) (by simp [hj]) (by rw [hlj, hek, hkx, ← hix, List.getElem_drop])
        omega
    rw [hfl]
    simp [Builtin.delete_, run_underlying ht, run_getObj_map hm, K.check, K.find, hf, Result.andThen, run_setObj_map _ hm, setO, map_eraseIdx']

end maps

section pairs
variable {P : Program} {w : World}
theorem run_equalIn_int (d : Nat) {t : TypeId} {k : IntKind} (ht : P.underlying t = some (.int k)) (a b : Int) :
    (Op.equalIn (d + 1) t (.int k a) (.int k b)).run P w = .ok (a == b) w := by
  simp [Op.equalIn, run_underlying ht]
theorem run_part_int {t : TypeId} {k : IntKind} (ht : P.underlying t = some (.int k)) (cs : Array Value) (i : Nat) (v : Value) (h : cs[i]? = some v) :
    (part t cs i).run P w = .ok v w := by
  simp [part, isAgg, run_underlying ht, h]
theorem run_equalIn_pair (d : Nat) {t : TypeId} {n m : IntKind} {f g : Field} (ht : P.underlying t = some (.struct #[f, g])) (hs : P.stoodInHeld t = false)
   (hf : f.name ≠ "_") (hg : g.name ≠ "_") (hfo : f.offset = 0) (hgo : g.offset = 1) (hi : P.underlying f.type = some (.int n)) (hj : P.underlying g.type = some (.int m)) (a b a' b' : Int) :
    (Op.equalIn (d + 2) t (.agg #[.int n a, .int m b]) (.agg #[.int n a', .int m b'])).run P w = .ok (a == a' && b == b') w := by
  have e1 := fun w => run_equalIn_int (P := P) (w := w) d hi a a'
  have e2 := fun w => run_equalIn_int (P := P) (w := w) d hj b b'
  have p1 := fun w x y => run_part_int (P := P) (w := w) hi #[.int n x, .int m y] 0 _ rfl
  have p2 := fun w x y => run_part_int (P := P) (w := w) hj #[.int n x, .int m y] 1 _ rfl
  rw [Op.equalIn]
  simp [run_underlying ht, hf, hg, hfo, hgo, e1, e2, p1, p2, program]
  simp only [Sem.run, Result.andThen, hs]
  by_cases h1 : a = a' <;> by_cases h2 : b = b' <;> simp [h1, h2]

/-- A pair of numbers as a struct's value. -/
def pairV (k : Int × Int) : Value := .agg #[.int .i64 k.1, .int .i64 k.2]

theorem keyOk_pair {t : TypeId} {f g : Field} (ht : P.underlying t = some (.struct #[f, g])) (hs : P.stoodInHeld t = false)
   (hf : f.name ≠ "_") (hg : g.name ≠ "_") (hfo : f.offset = 0) (hgo : g.offset = 1) (hi : P.underlying f.type = some (.int .i64)) (hj : P.underlying g.type = some (.int .i64))
   (hc : ∀ (b : Bool) (k : Int × Int) (w : World), (Instr.checkKey b 10000 t (pairV k)).run P w = .ok () w) : KeyOk P t pairV where
  check := hc
  same := fun k => by simp [pairV, Instr.sameBits]
  find := fun k l w => by
    have heq : ∀ k k' : Int × Int, (Op.equal t (pairV k) (pairV k')).run P w = .ok (decide (k = k')) w := by
      intro k k'
      have := run_equalIn_pair (P := P) (w := w) 9998 ht hs hf hg hfo hgo hi hj k.1 k.2 k'.1 k'.2
      rw [Op.equal, Op.maxDepth]
      refine Eq.trans this ?_
      congr 1
      rw [Bool.eq_iff_iff]
      simp [Prod.ext_iff]
    have hask : ∀ (l : List (Ent (Int × Int))) (i : Nat), (Instr.findAsking t (pairV k) (l.map (Ent.raw pairV)) i).run P w = .ok (findFrom k l i) w := by
      intro l
      induction l with
      | nil => intro i; simp [Instr.findAsking, findFrom]
      | cons e es ih =>
        intro i
        by_cases h : k = e.key
        · simp [Instr.findAsking, findFrom, Ent.raw, heq, h, Result.andThen]
        · simp [Instr.findAsking, findFrom, Ent.raw, heq, h, Result.andThen]
          simpa [Ent.raw] using ih (i + 1)
    cases l with
    | nil => simp [Instr.findKey, run_underlying ht, Instr.findNow, findFrom, Result.andThen]
    | cons e es =>
      have h1 : Instr.findNow (.struct #[f, g]) (pairV k) ((e :: es).map (Ent.raw pairV)) 0 = none := by
        simp [Instr.findNow, Instr.sameNow, pairV, Ent.raw]
      simp only [Instr.findKey, Sem.run_bind, run_underlying ht, Result.andThen, h1]
      exact hask (e :: es) 0
end pairs

section steps
variable {P : Program} {ops : Array Oper} {rest : List Oper} {o : Oper} {a : Act} {Q : Exit → Act → World → Prop} {w w' : World}

/-- One operation whose run is known. -/
theorem wpList_run {v : Value} (hg : o.guard = none) (hr : (execOp a.eval o).run P w = .ok (.value v) w')
    (h : wpList P ops Q rest (a.put o.dst v) w') : wpList P ops Q (o :: rest) a w :=
  wpList_plain hg fun K hK => by
    unfold Oper.wp
    rw [hr]
    exact hK _ _ h

theorem wpList_skip (hg : o.guard = none) (hr : (execOp a.eval o).run P w = .ok .skip w')
    (h : wpList P ops Q rest (a.put o.dst undef) w') : wpList P ops Q (o :: rest) a w :=
  wpList_plain hg fun K hK => by
    unfold Oper.wp
    rw [hr]
    exact hK _ _ h

theorem execOp_append {s x : Operand} {t tx : TypeId} (hop : o.op = Op.call { callee := Callee.builtin Builtin.append, args := #[s, x], argTypes := #[t, tx] })
    {sv xv v : Value} (hs : a.eval s = sv) (hx : a.eval x = xv) (hr : (Builtin.append_ #[t, tx] o.type #[sv, xv]).run P w = .ok v w') :
    (execOp a.eval o).run P w = .ok (.value v) w' := by
  unfold execOp
  simp [hop, resolve, invoke, hs, hx, builtin, hr]

theorem cells_one {v : Value} (h : v.oneCell' = true) : v.cells = #[v] := by cases v <;> first | rfl | cases h

theorem run_buildSlice1 {t E : TypeId} {z : Value} {bytes : Nat} (ht : P.underlying t = some (.slice E)) (hi : (P.info? E).map (fun i => (i.zero, i.size, i.bytes)) = some (some z, 1, bytes)) (hz : z.oneCell' = true) {v : Value} (hv : v.oneCell' = true) :
    (Instr.buildSlice t 1 #[(0, v)]).run P w = .ok (.slice (some ⟨w.heap.size, 0, none⟩) 1 1) (w.alloc (.cells #[v] E)) := by
  obtain ⟨i0, hi0, hz0, hz1, _⟩ := info_parts hi
  simp [Instr.buildSlice, run_underlying ht, sizeOf, typeInfo, hi0, hz1, zeroValue, hz0, Instr.fill, cells_one hv, cells_one hz, newRow]
  congr 2
  apply Array.ext
  · simp
  · intro i h1 h2
    simp at h1
    simp [h1]

theorem execOp_buildSlice1 {x : Operand} {t E : TypeId} {z v : Value} {bytes : Nat} (hop : o.op = Op.buildSlice t 1 #[(0, x)]) (ht : P.underlying t = some (.slice E)) (hi : (P.info? E).map (fun i => (i.zero, i.size, i.bytes)) = some (some z, 1, bytes)) (hz : z.oneCell' = true)
    (hx : a.eval x = v) (hv : v.oneCell' = true) : (execOp a.eval o).run P w = .ok (.value (.slice (some ⟨w.heap.size, 0, none⟩) 1 1)) (w.alloc (.cells #[v] E)) := by
  unfold execOp
  simp [hop, hx, run_buildSlice1 ht hi hz hv]

theorem wpList_append {s x : Operand} {t tx : TypeId} (hg : o.guard = none) (hop : o.op = Op.call { callee := Callee.builtin Builtin.append, args := #[s, x], argTypes := #[t, tx] })
    {sv xv v : Value} (hs : a.eval s = sv) (hx : a.eval x = xv) (hr : (Builtin.append_ #[t, tx] o.type #[sv, xv]).run P w = .ok v w')
    (h : wpList P ops Q rest (a.put o.dst v) w') : wpList P ops Q (o :: rest) a w :=
  wpList_run hg (execOp_append hop hs hx hr) h
end steps

section bytes
variable {P : Program} {w w' : World}

def bcells (l : List UInt8) : List Value := l.map fun x => .int .u8 x.toNat

/-- The value reads as the bytes l. -/
def Bytes (w : World) (v : Value) (l : List UInt8) : Prop :=
  (v = .slice none 0 0 ∧ l = []) ∨ ∃ (b o c : Nat), v = .slice (some ⟨b, o, none⟩) l.length c ∧ b < w.heap.size ∧ ∀ (i : Nat) (x : UInt8), l[i]? = some x → w.cell? ⟨b, o + i, none⟩ = some (.int .u8 x.toNat)

/-- The block behind a slice. -/
def blk : Value → Option Nat
  | .slice (some a) _ _ => some a.block
  | _ => none

/-- The value reads as the bytes l, and lies at the head of a row of its own kind. -/
def OBytes (E : TypeId) (w : World) (v : Value) (l : List UInt8) : Prop :=
  (v = .slice none 0 0 ∧ l = []) ∨ ∃ (b c : Nat) (arr : Array Value), v = .slice (some ⟨b, 0, none⟩) l.length c ∧ w.heap[b]? = some (.cells arr E (0, 0)) ∧ arr.size = c ∧ ∀ (i : Nat) (x : UInt8), l[i]? = some x → arr[i]? = some (Value.int .u8 x.toNat)

theorem OBytes.bytes {E : TypeId} {v : Value} {l : List UInt8} (h : OBytes E w v l) : Bytes w v l := by
  rcases h with h | ⟨b, c, arr, h1, h2, h3, h4⟩
  · exact .inl h
  · refine .inr ⟨b, 0, c, h1, lt_of_getElem? h2, fun i x hx => ?_⟩
    simp [World.cell?, h2, h4 i x hx]

theorem Bytes.keep {v : Value} {l : List UInt8} (h : Bytes w v l) (hs : w.heap.size ≤ w'.heap.size) (hk : ∀ b, blk v = some b → w'.heap[b]? = w.heap[b]?) : Bytes w' v l := by
  rcases h with h | ⟨b, o, c, h1, h2, h3⟩
  · exact .inl h
  · refine .inr ⟨b, o, c, h1, by omega, fun i x hx => ?_⟩
    rw [← h3 i x hx]
    simp only [World.cell?, hk b (by rw [h1]; rfl)]

theorem OBytes.keep {E : TypeId} {v : Value} {l : List UInt8} (h : OBytes E w v l) (hk : ∀ b, blk v = some b → w'.heap[b]? = w.heap[b]?) : OBytes E w' v l := by
  rcases h with h | ⟨b, c, arr, h1, h2, h3⟩
  · exact .inl h
  · exact .inr ⟨b, c, arr, h1, by rw [hk b (by rw [h1]; rfl), h2], h3⟩

/-- 'string(b)'. -/
theorem run_string {src dst e : TypeId} (hs : P.underlying src = some (.slice e)) (he : P.underlying e = some (.int .u8)) (hd : P.underlying dst = some .string) {v : Value} {l : List UInt8} (h : Bytes w v l) :
    (convert src dst v).run P w = .ok (.string ⟨l.toArray⟩) w := by
  rcases h with ⟨rfl, rfl⟩ | ⟨b, o, c, rfl, h1, h2⟩
  · rw [run_convert_bytes_string w src dst e none 0 0 hs he hd]
    rfl
  · refine run_convert_bytes_back w src dst e ⟨b, o, none⟩ c l hs he hd fun j hj => ?_
    rw [Addr.add_lit]
    exact h2 j l[j] (by simp [hj])

/-- Nothing that was there has turned; new blocks may have come. -/
abbrev Grow (w w' : World) : Prop := Below w.heap.size w w'

theorem Grow.trans {w1 w2 w3 : World} (h : Grow w1 w2) (k : Grow w2 w3) : Grow w1 w3 := Below.trans h (Below.mono k h.size)

theorem Grow.refl (w : World) : Grow w w := Below.refl _ _
theorem Grow.alloc (w : World) (o : Obj) : Grow w (w.alloc o) := (Below.refl _ _).alloc (Nat.le_refl _) o
theorem Grow.drew (w : World) : Grow w w.drew := (Below.refl _ _).drew
theorem Grow.drewN (w : World) (n : Nat) : Grow w (w.drewN n) := ⟨rfl, rfl, rfl, Nat.le_refl _, fun _ _ => rfl⟩
theorem bDrewN {B : Nat} {a w : World} {n : Nat} (h : Below B a w) : Below B a (w.drewN n) := h.trans ⟨rfl, rfl, rfl, Nat.le_refl _, fun _ _ => rfl⟩
theorem Grow.heap {w w' : World} (h : Grow w w') {b : Nat} {o : Obj} (hb : w.heap[b]? = some o) : w'.heap[b]? = some o := by
  rw [h.block b (lt_of_getElem? hb), hb]
theorem Grow.bytes {w w' : World} {v : Value} {l : List UInt8} (h : Grow w w') (hb : Bytes w v l) : Bytes w' v l := by
  refine hb.keep h.size fun b hb' => ?_
  rcases hb with ⟨rfl, _⟩ | ⟨b', o, c, rfl, h2, _⟩
  · cases hb'
  · cases hb'; exact h.block _ h2

theorem Grow.cells {w : World} : ∀ (W : World) (b o : Nat), Below w.heap.size w W → b < w.heap.size → W.cell? ⟨b, o, none⟩ = w.cell? ⟨b, o, none⟩ :=
  fun _ _ _ h hb => h.cell (p := ⟨_, _, none⟩) hb

/-- What a copy of bytes comes to. -/
def Copied (E : TypeId) (w : World) (l : List UInt8) (e : Ending) (w' : World) : Prop :=
  ∃ v', e = .returned v' ∧ OBytes E w' v' l ∧ (∀ b, blk v' = some b → w.heap.size ≤ b) ∧ Grow w w'

theorem getElem?_append_mid {α : Type} (a b : List α) (i : Nat) (x : α) (h : a[i]? = some x) : (a ++ b)[i]? = some x := by
  rw [List.getElem?_append_left (List.getElem?_eq_some_iff.1 h).1, h]

/-- 'append([]byte{}, s...)' of one byte and more. -/
theorem run_append_copy {t E ty : TypeId} (ht : P.underlying t = some (.slice E)) (hi : (P.info? E).map (fun i => (i.zero, i.size, i.bytes)) = some (some (.int .u8 0), 1, 1))
    {b0 b o c : Nat} {l : List UInt8} (hl : 0 < l.length) (hmax : l.length ≤ 140737488355328) (hc : ∀ (i : Nat) (x : UInt8), l[i]? = some x → w.cell? ⟨b, o + i, none⟩ = some (.int .u8 x.toNat)) :
    ∃ cap, l.length ≤ cap ∧ (Builtin.append_ #[t, t] ty #[.slice (some ⟨b0, 0, none⟩) 0 0, .slice (some ⟨b, o, none⟩) l.length c]).run P w =
      .ok (.slice (some ⟨w.heap.size, 0, none⟩) l.length cap) (w.drew.alloc (.cells ((bcells l).toArray ++ Builtin.zeroCells #[.int .u8 0] (cap - l.length)) E)) := by
  obtain ⟨i0, hi0, hz0, hz1, hz2⟩ := info_parts hi
  have hsrc : Src P i0.size t (.slice (some ⟨b, o, none⟩) l.length c) l.length (bcells l) w := by
    refine Src.ofSlice w ht _ _ _ _ (by simp [bcells, hz1]) (fun j u hu => ?_) (fun u hu => ?_)
    · simp only [bcells, List.getElem?_map, Option.map_eq_some_iff] at hu
      obtain ⟨x, hx, rfl⟩ := hu
      rw [Addr.add_lit]
      exact hc j x hx
    · simp only [bcells, List.mem_map] at hu
      obtain ⟨x, _, rfl⟩ := hu
      rfl
  have hold : (Builtin.firstCells i0.size 0 (.slice (some ⟨b0, 0, none⟩) 0 0)).run P w.drew = .ok ([] : List Value).toArray w.drew := by
    simp [Builtin.firstCells, loadCells, loadCellsFrom]
  have hr := run_append_grow_src w t t ty E i0 (.int .u8 0) ht hi0 hz0 (some ⟨b0, 0, none⟩) 0 0 [] hold _ l.length (bcells l) hsrc (by omega) (by omega)
    (by rw [hz2, Nat.zero_add, nextslicecap_zero hl]; omega)
  have hge := grownCap_ge w (0 + l.length) 0 E
  simp only [Nat.zero_add, List.nil_append] at hr hge
  exact ⟨_, hge, hr⟩

/-- 'append([]byte{}, s...)' of no byte. -/
theorem run_append_copy_zero {t E ty : TypeId} (ht : P.underlying t = some (.slice E)) (hi : (P.info? E).map (fun i => (i.zero, i.size, i.bytes)) = some (some (.int .u8 0), 1, 1))
    {b0 : Nat} {x : Value} (hx : x = .slice none 0 0 ∨ ∃ a c, x = .slice (some a) 0 c) :
    (Builtin.append_ #[t, t] ty #[.slice (some ⟨b0, 0, none⟩) 0 0, x]).run P w = .ok (.slice (some ⟨b0, 0, none⟩) 0 0) w := by
  obtain ⟨i0, hi0, hz0, hz1, hz2⟩ := info_parts hi
  have hsrc : Src P i0.size t x 0 [] w := by
    rcases hx with rfl | ⟨a, c, rfl⟩
    · exact Src.ofNil w ht 0
    · exact Src.ofSlice w ht _ _ _ _ (by simp) (fun j u hu => by simp at hu) (fun u hu => by cases hu)
  have hr := run_append_room_src w t t ty E i0 ht hi0 b0 0 0 0 x 0 [] hsrc (by omega) (fun j hj => by simp at hj) (fun j hj => by simp at hj)
  simpa [World.setCells] using hr

theorem oBytes_new {E : TypeId} {l : List UInt8} {cap n : Nat} (hcap : l.length ≤ cap) (hn : w.heap.size = n) :
    OBytes E (w.alloc (.cells ((bcells l).toArray ++ Builtin.zeroCells #[.int .u8 0] (cap - l.length)) E)) (.slice (some ⟨n, 0, none⟩) l.length cap) l := by
  subst hn
  refine .inr ⟨w.heap.size, cap, _, rfl, heap_alloc_new w _, ?_, fun i x hx => ?_⟩
  · simp [size_zeroCells, bcells]; omega
  · have h2 : (bcells l)[i]? = some (.int .u8 x.toNat) := by simp [bcells, hx]
    rw [← Array.getElem?_toList]
    simp only [Array.toList_append]
    exact getElem?_append_mid _ _ _ _ h2
end bytes

section range
variable {P : Program} {κ : Type} {w : World}

/-- The entries that a loop over a map has not met yet. -/
def unmet (seen : Array Nat) (l : List (Ent κ)) : List (Ent κ) := l.filter fun e => !seen.contains e.born

/-- How many entries a loop has not met yet, off the memory. -/
def iterLeft (r it : Nat) (w : World) : Nat :=
  match w.heap[it]?, w.heap[r]? with
  | some (.mapIter _ _ seen _), some (.map es _) => (leftOf es seen).size
  | _, _ => 0

theorem leftOf_raw (enc : κ → Value) (seen : Array Nat) (l : List (Ent κ)) : (leftOf (l.map (Ent.raw enc)).toArray seen).toList = (unmet seen l).map (Ent.raw enc) := by
  unfold leftOf unmet
  rw [Array.toList_filter, List.filter_map]
  rfl

theorem iterLeft_eq {enc : κ → Value} {r it c since c0 : Nat} {seen : Array Nat} {l : List (Ent κ)} (hi : w.heap[it]? = some (.mapIter (some r) since seen c0)) (hm : MapAt w r enc l c) : iterLeft r it w = (unmet seen l).length := by
  unfold iterLeft
  rw [hi, show w.heap[r]? = _ from hm]
  simp only
  rw [← Array.length_toList, leftOf_raw, List.length_map]

/-- One step of a loop over a map. -/
theorem run_next {enc : κ → Value} {r it c since c0 : Nat} {seen : Array Nat} {l : List (Ent κ)} (ty : TypeId) (hi : w.heap[it]? = some (.mapIter (some r) since seen c0)) (hm : MapAt w r enc l c) (hold : ∀ e ∈ l, e.born < since) (hsc : since ≤ c0) (hir : it ≠ r) (hn : (l.map Ent.born).Nodup) :
    (unmet seen l = [] ∧ (Instr.next (.pointer (some ⟨it, 0, none⟩)) false ty).run P w = .ok (.tuple #[.bool false]) w) ∨
    ∃ e w1, e ∈ unmet seen l ∧ (Instr.next (.pointer (some ⟨it, 0, none⟩)) false ty).run P w = .ok (.tuple #[.bool true, enc e.key, e.val]) w1 ∧
      (Instr.entry (.pointer (some ⟨it, 0, none⟩))).run P w1 = .ok (.tuple #[enc e.key, e.val]) w1 ∧
      w1.heap[it]? = some (.mapIter (some r) since (seen.push e.born) c) ∧ w.grownBy w1 (some it) ∧ w1.heap.size = w.heap.size := by
  rcases run_next_at (P := P) w ty it r since c0 seen _ c hi hm (by simpa [Ent.raw] using hold) hsc with ⟨h1, h2⟩ | ⟨e, he, w1, hw1, hrun⟩
  · left
    refine ⟨?_, h2⟩
    have := congrArg List.length (leftOf_raw enc seen l)
    rw [Array.length_toList, h1, List.length_map] at this
    exact List.eq_nil_of_length_eq_zero this.symm
  · right
    rw [leftOf_raw] at he
    obtain ⟨x, hx, rfl⟩ := List.mem_map.1 he
    have hxl : x ∈ l := (List.mem_filter.1 hx).1
    have hlt : it < w1.heap.size := by rcases hw1 with rfl | rfl <;> exact lt_of_getElem? hi
    have hit : (ChangeMaps.setBlock w1 it (.mapIter (some r) since (seen.push (Ent.raw enc x).born) c)).heap[it]? = some (.mapIter (some r) since (seen.push x.born) c) := by
      simp [ChangeMaps.setBlock, hlt, Ent.raw]
    have hoth : ∀ b, b ≠ it → (ChangeMaps.setBlock w1 it (.mapIter (some r) since (seen.push (Ent.raw enc x).born) c)).heap[b]? = w.heap[b]? := by
      intro b hb
      have : w1.heap[b]? = w.heap[b]? := by rcases hw1 with rfl | rfl <;> rfl
      rw [← this]
      simp [ChangeMaps.setBlock, Array.getElem?_setIfInBounds_ne (Ne.symm hb)]
    have hsz : (ChangeMaps.setBlock w1 it (.mapIter (some r) since (seen.push (Ent.raw enc x).born) c)).heap.size = w.heap.size := by
      rcases hw1 with rfl | rfl <;> simp [ChangeMaps.setBlock]
    refine ⟨x, _, hx, hrun, ?_, hit, ⟨?_, ?_, ?_, Nat.le_of_eq hsz.symm, fun b _ hb => hoth b (fun e => hb (by rw [e]))⟩, hsz⟩
    · refine run_entry_at _ it r since seen _ c (Ent.raw enc x) hit ((hoth r (Ne.symm hir)).trans hm) (by simpa using List.mem_map_of_mem hxl) ?_
      simpa [Ent.raw, Function.comp_def] using hn
    · rcases hw1 with rfl | rfl <;> rfl
    · rcases hw1 with rfl | rfl <;> rfl
    · rcases hw1 with rfl | rfl <;> rfl

/-- What is left when one more has been met. -/
theorem unmet_push (seen : Array Nat) (l : List (Ent κ)) (b : Nat) : unmet (seen.push b) l = (unmet seen l).filter fun e => decide (e.born ≠ b) := by
  unfold unmet
  rw [List.filter_filter]
  apply List.filter_congr
  intro e _
  simp only [Array.contains_push, Bool.not_or]
  rw [Bool.and_comm]
  congr 1
  by_cases h : e.born = b
  · simp [h]
  · simp [h]

theorem unmet_nodup {seen : Array Nat} {l : List (Ent κ)} (hn : (l.map Ent.born).Nodup) : ((unmet seen l).map Ent.born).Nodup := hn.sublist (List.filter_sublist.map _)

/-- A sum over what is left, when one more has been met. -/
theorem sum_filter_ne {g : Ent κ → Nat} : ∀ {l : List (Ent κ)} {x : Ent κ}, (l.map Ent.born).Nodup → x ∈ l → ((l.filter fun e => decide (e.born ≠ x.born)).map g).sum + g x = (l.map g).sum
  | [], _, _, h => by cases h
  | y :: l, x, hn, h => by
    simp only [List.map_cons, List.nodup_cons] at hn
    by_cases hyx : y.born = x.born
    · have hxy : x = y := by
        rcases List.mem_cons.1 h with h | h
        · exact h
        · exact absurd (List.mem_map.2 ⟨x, h, hyx.symm⟩) hn.1
      subst hxy
      have : l.filter (fun e => decide (e.born ≠ x.born)) = l := List.filter_eq_self.2 fun e he => by
        simp only [decide_eq_true_eq]
        intro e1; exact hn.1 (List.mem_map.2 ⟨e, he, e1⟩)
      rw [List.filter_cons_of_neg (by simp), this, List.map_cons, List.sum_cons]; omega
    · have hx : x ∈ l := by
        rcases List.mem_cons.1 h with h | h
        · exact absurd (by rw [h]) hyx
        · exact h
      have ih := sum_filter_ne (g := g) hn.2 hx
      rw [List.filter_cons_of_pos (by simpa using hyx)]
      simp only [List.map_cons, List.sum_cons]
      omega
end range

section keep
variable {soft : Obj → Prop} {B : Nat} {w w' w'' : World}

/-- Below B nothing has turned, and no block has but those of a soft kind. -/
structure Keep (soft : Obj → Prop) (B : Nat) (w w' : World) : Prop where
  below : Below B w w'
  hard : ∀ (b : Nat) (o : Obj), w.heap[b]? = some o → ¬ soft o → w'.heap[b]? = some o

theorem Keep.refl (soft : Obj → Prop) (B : Nat) (w : World) : Keep soft B w w := ⟨Below.refl _ _, fun _ _ h _ => h⟩
theorem Keep.trans (h : Keep soft B w w') (k : Keep soft B w' w'') : Keep soft B w w'' :=
  ⟨h.below.trans k.below, fun b o hb ho => k.hard b o (h.hard b o hb ho) ho⟩
theorem Keep.ofGrow (h : Grow w w') (hB : B ≤ w.heap.size) : Keep soft B w w' := ⟨h.mono hB, fun _ _ hb _ => h.heap hb⟩
theorem Keep.size (h : Keep soft B w w') : w.heap.size ≤ w'.heap.size := h.below.size
theorem Keep.setO {r : Nat} {o0 o : Obj} (hr : w.heap[r]? = some o0) (hs : soft o0) (hB : B ≤ r) : Keep soft B w (setO w r o) :=
  ⟨⟨rfl, rfl, rfl, by simp [Gl.setO], fun k hk => setO_other (by omega)⟩, fun b x hb hx => by
    rw [setO_other (fun e => hx (by rw [e, hr] at hb; cases hb; exact hs)), hb]⟩
theorem Keep.grown {row : Option Nat} (h : w.grownBy w' row) (hB : ∀ k, row = some k → B ≤ k) (hBs : B ≤ w.heap.size) (hs : ∀ (k : Nat) (o : Obj), row = some k → w.heap[k]? = some o → soft o) : Keep soft B w w' :=
  ⟨⟨h.os, h.tape, h.output, h.size, fun k hk => h.block k (by omega) (fun e => by have := hB k e.symm; omega)⟩, fun b o hb ho => by
    rw [h.block b (lt_of_getElem? hb) (fun e => ho (hs b o e.symm hb)), hb]⟩
theorem Keep.cell (h : Keep soft B w w') {b i : Nat} {arr : Array Value} {t : TypeId} {f : Nat × Nat} {v : Value} (hb : w.heap[b]? = some (.cells arr t f)) (hs : ¬ soft (.cells arr t f)) (hv : arr[i]? = some v) :
    w'.cell? ⟨b, i, none⟩ = some v := by
  simp [World.cell?, h.hard b _ hb hs, hv]
theorem Keep.setCell (h : Keep soft B w w') {a : Addr} {v : Value} (ha : w.heap.size ≤ a.block) (hB : B ≤ w.heap.size) : Keep soft B w (w'.setCell a v) :=
  ⟨h.below.setCell (by omega) v, fun b o hb ho => by
    rw [Below.heap_setCell _ _ _ _ (by have := lt_of_getElem? hb; omega)]; exact h.hard b o hb ho⟩
/-- A block that stays. -/
def Firm (soft : Obj → Prop) (B : Nat) (w : World) (b : Nat) : Prop := b < B ∨ ∃ o, w.heap[b]? = some o ∧ ¬ soft o
theorem Firm.keep {b : Nat} (hf : Firm soft B w b) (h : Keep soft B w w') : w'.heap[b]? = w.heap[b]? ∧ Firm soft B w' b := by
  rcases hf with hf | ⟨o, h1, h2⟩
  · exact ⟨h.below.block b hf, .inl hf⟩
  · exact ⟨by rw [h.hard b o h1 h2, h1], .inr ⟨o, h.hard b o h1 h2, h2⟩⟩
end keep

section pi
variable {P : Program} {ops : Array Oper} {Q : Exit → Act → World → Prop} {S : World → Prop}

/-- A region that draws its order, walked once: the operations in some order, and of each whether it acts (it is run in the world at hand) or is quiet (it yields one value in every world that meets S). -/
def wpPi (P : Program) (ops : Array Oper) (Q : Exit → Act → World → Prop) (S : World → Prop) : List (Oper × Bool) → Act → World → Prop
  | [], a, w => Q .normal a w
  | (o, false) :: rest, a, w => ∃ v, YieldsIf P ops S o v a ∧ wpPi P ops Q S rest (a.put o.dst v) w
  | (o, true) :: rest, a, w => if Region.wanted o (yielded ops a.tmps) then o.wp P a w (fun a' w' => S w' ∧ wpPi P ops Q S rest a' w') Q else (S w ∧ wpPi P ops Q S rest (a.put o.dst undef) w)

def nth : List Oper → Nat → Oper
  | [], _ => default
  | o :: _, 0 => o
  | _ :: l, n + 1 => nth l n

def arrange (l : List Oper) : List (Nat × Bool) → List (Oper × Bool)
  | [] => []
  | (i, b) :: r => (nth l i, b) :: arrange l r

def checkPi (ops : Array Oper) : List (Nat × Bool) → Array Bool → Bool
  | [], listed => (Region.ready .any ops listed).isEmpty
  | (i, false) :: rest, listed => (Region.ready .any ops listed).contains i && Region.free .any ops listed i && checkPi ops rest (listed.setIfInBounds i true)
  | (i, true) :: rest, listed => decide (Region.ready .any ops listed = [i]) && checkPi ops rest (listed.setIfInBounds i true)

theorem nth_of_lt : ∀ {l : List Oper} {i : Nat}, i < l.length → l[i]? = some (nth l i)
  | [], _, h => by simp at h
  | _ :: _, 0, _ => rfl
  | _ :: l, i + 1, h => by simpa [nth] using nth_of_lt (l := l) (by simpa using h)

theorem ready_lt {ops : Array Oper} {listed : Array Bool} {i : Nat} (h : i ∈ Region.ready .any ops listed) : i < ops.size := by
  simp only [Region.ready, List.mem_filter, List.mem_range] at h
  exact h.1

theorem wpAnyH_of_pi {l : List Oper} (hs : Region.noSelect l.toArray = true) (hQ : ∀ c a d v w, Q (.panic c) (Act.put a d v) w → Q (.panic c) a w) : ∀ (π : List (Nat × Bool)) (listed : Array Bool) (a : Act) (w : World),
    checkPi l.toArray π listed = true → S w → wpPi P l.toArray Q S (arrange l π) a w → wpAnyH P .any l.toArray Q S π.length listed a w
  | [], listed, a, w, hc, hS, h => wpAnyH_done (by simpa [checkPi] using hc) h _
  | (i, false) :: rest, listed, a, w, hc, hS, h => by
    simp only [checkPi, Bool.and_eq_true] at hc
    obtain ⟨v, hy, hr⟩ := h
    have hi := ready_lt (by simpa using hc.1.1)
    exact wpAnyH_take (by simpa using nth_of_lt (l := l) (by simpa using hi)) hs hc.1.2 hc.1.1 (fun c a w => hQ c a _ _ w) hy hS (wpAnyH_of_pi hs hQ rest _ _ _ hc.2 hS hr)
  | (i, true) :: rest, listed, a, w, hc, hS, h => by
    simp only [checkPi, Bool.and_eq_true, decide_eq_true_eq] at hc
    refine wpAnyH_all hc.1 (by simp) fun j hj => ?_
    have hji : j = i := by simpa using hj
    subst hji
    have hi : l.toArray[j]? = some (nth l j) := by
      have := ready_lt (ops := l.toArray) (listed := listed) (i := j) (by rw [hc.1]; simp)
      simpa using nth_of_lt (l := l) (by simpa using this)
    simp only [arrange, wpPi] at h
    unfold wpOp
    simp only [hi]
    split
    · rename_i hw
      rw [if_pos hw] at h
      exact .inl (Oper.wp_mono (fun a' w' h' => ⟨h'.1, wpAnyH_of_pi hs hQ rest _ _ _ hc.2 h'.1 h'.2⟩) h)
    · rename_i hw
      rw [if_neg hw] at h
      exact ⟨h.1, wpAnyH_of_pi hs hQ rest _ _ _ hc.2 h.1 h.2⟩

theorem wp_region_pi {id : Nat} {a : Act} {w : World} {l : List Oper} (S : World → Prop) (π : List (Nat × Bool)) (hm : P.follows .mixedOrders = true)
    (hB : (Region.noSelect l.toArray && checkPi l.toArray π (Array.replicate l.toArray.size false) && decide (π.length = l.toArray.size)) = true)
    (hQ : ∀ c a d v w, Q (.panic c) (Act.put a d v) w → Q (.panic c) a w) (hS : S w.drew) (h : wpPi P l.toArray Q S (arrange l π) a w.drew) : (Code.region id l.toArray true).wp P Q a w := by
  simp only [Bool.and_eq_true, decide_eq_true_eq] at hB
  refine wp_region_held (S := S) hm ?_
  rw [← hB.2]
  exact wpAnyH_of_pi hB.1.1 hQ π _ _ _ (by rw [hB.2]; exact hB.1.2) hS h

/-- The text's own order; the numbers say how many quiet operations stand ahead of each that acts. -/
def inRow : List Oper → List Nat → List (Oper × Bool)
  | [], _ => []
  | o :: l, [] => (o, false) :: inRow l []
  | o :: l, 0 :: g => (o, true) :: inRow l g
  | o :: l, (n + 1) :: g => (o, false) :: inRow l (n :: g)
def rowPi : Nat → Nat → List Nat → List (Nat × Bool)
  | _, 0, _ => []
  | i, n + 1, [] => (i, false) :: rowPi (i + 1) n []
  | i, n + 1, 0 :: g => (i, true) :: rowPi (i + 1) n g
  | i, n + 1, (m + 1) :: g => (i, false) :: rowPi (i + 1) n (m :: g)
theorem rowPi_len : ∀ (n i : Nat) (g : List Nat), (rowPi i n g).length = n
  | 0, _, _ => by simp [rowPi]
  | n + 1, i, [] => by simp [rowPi, rowPi_len n]
  | n + 1, i, 0 :: g => by simp [rowPi, rowPi_len n]
  | n + 1, i, (m + 1) :: g => by simp [rowPi, rowPi_len n]
theorem nth_mid : ∀ (pre : List Oper) (o : Oper) (l : List Oper), nth (pre ++ o :: l) pre.length = o
  | [], _, _ => rfl
  | _ :: pre, o, l => nth_mid pre o l
theorem inRow_eq : ∀ (l pre : List Oper) (g : List Nat), arrange (pre ++ l) (rowPi pre.length l.length g) = inRow l g
  | [], pre, g => by cases g <;> rfl
  | o :: l, pre, g => by
    have ih := fun g => inRow_eq l (pre ++ [o]) g
    have e : (pre ++ [o]) ++ l = pre ++ o :: l := by simp
    have e2 : (pre ++ [o]).length = pre.length + 1 := by simp
    rw [e, e2] at ih
    match g with
    | [] => simp only [List.length_cons, rowPi, arrange, inRow, nth_mid, ih]
    | 0 :: g => simp only [List.length_cons, rowPi, arrange, inRow, nth_mid, ih]
    | (n + 1) :: g => simp only [List.length_cons, rowPi, arrange, inRow, nth_mid, ih]
theorem wp_region_row {id : Nat} {a : Act} {w : World} {l : List Oper} (S : World → Prop) (g : List Nat)
    (hB : (P.follows .mixedOrders && (Region.noSelect l.toArray && checkPi l.toArray (rowPi 0 l.length g) (Array.replicate l.toArray.size false))) = true)
    (hQ : ∀ c a d v w, Q (.panic c) (Act.put a d v) w → Q (.panic c) a w) (hS : S w.drew) (h : wpPi P l.toArray Q S (inRow l g) a w.drew) : (Code.region id l.toArray true).wp P Q a w := by
  simp only [Bool.and_eq_true] at hB
  refine wp_region_pi S (rowPi 0 l.length g) hB.1 (by simp only [Bool.and_eq_true, decide_eq_true_eq]; exact ⟨hB.2, by simp [rowPi_len]⟩) hQ hS ?_
  rw [show arrange l (rowPi 0 l.length g) = inRow l g from inRow_eq l [] g]
  exact h

theorem putA {l : List Value} {d : Nat} {v : Value} {ds : List Deferred} : Act.put ⟨l.toArray, ds⟩ (some d) v = ⟨(l.set d v).toArray, ds⟩ := by simp [Act.put]
theorem putN {a : Act} {v : Value} : a.put none v = a := rfl

theorem wpPi_nil {a : Act} {w : World} (h : Q .normal a w) : wpPi P ops Q S [] a w := h

theorem wpPi_quiet {rest : List (Oper × Bool)} {a : Act} {w : World} {o : Oper} {v : Value} (hw : Region.wanted o (yielded ops a.tmps) = true)
    (hv : ∀ W, S W → (execOp a.eval o).run P W = .ok (.value v) W) (h : wpPi P ops Q S rest (a.put o.dst v) w) : wpPi P ops Q S ((o, false) :: rest) a w :=
  ⟨v, .inl ⟨hw, hv⟩, h⟩

theorem wpPi_off {rest : List (Oper × Bool)} {a : Act} {w : World} {o : Oper} (hw : Region.wanted o (yielded ops a.tmps) = false)
    (h : wpPi P ops Q S rest (a.put o.dst undef) w) : wpPi P ops Q S ((o, false) :: rest) a w :=
  ⟨undef, .inr ⟨hw, rfl⟩, h⟩

theorem wpPi_act {rest : List (Oper × Bool)} {a : Act} {w : World} {o : Oper} (hw : Region.wanted o (yielded ops a.tmps) = true)
    (h : ∀ K : Act → World → Prop, (∀ a w, S w ∧ wpPi P ops Q S rest a w → K a w) → o.wp P a w K Q) : wpPi P ops Q S ((o, true) :: rest) a w := by
  unfold wpPi
  rw [if_pos hw]
  exact h _ (fun _ _ h => h)

theorem wpPi_act_off {rest : List (Oper × Bool)} {a : Act} {w : World} {o : Oper} (hw : Region.wanted o (yielded ops a.tmps) = false) (hS : S w)
    (h : wpPi P ops Q S rest (a.put o.dst undef) w) : wpPi P ops Q S ((o, true) :: rest) a w := by
  unfold wpPi
  rw [if_neg (by simp [hw])]
  exact ⟨hS, h⟩

/-- An acting operation whose run is known. -/
theorem wpPi_run {rest : List (Oper × Bool)} {a : Act} {w w' : World} {o : Oper} {v : Value} (hw : Region.wanted o (yielded ops a.tmps) = true)
    (hr : (execOp a.eval o).run P w = .ok (.value v) w') (hS : S w') (h : wpPi P ops Q S rest (a.put o.dst v) w') : wpPi P ops Q S ((o, true) :: rest) a w :=
  wpPi_act hw fun K hK => by
    unfold Oper.wp
    rw [hr]
    exact hK _ _ ⟨hS, h⟩

theorem wpPi_skip {rest : List (Oper × Bool)} {a : Act} {w w' : World} {o : Oper} (hw : Region.wanted o (yielded ops a.tmps) = true)
    (hr : (execOp a.eval o).run P w = .ok .skip w') (hS : S w') (h : wpPi P ops Q S rest (a.put o.dst undef) w') : wpPi P ops Q S ((o, true) :: rest) a w :=
  wpPi_act hw fun K hK => by
    unfold Oper.wp
    rw [hr]
    exact hK _ _ ⟨hS, h⟩

/-- A call by its contract. -/
theorem wpPi_call {rest : List (Oper × Bool)} {a : Act} {w : World} {o : Oper} {f : FuncId} {args : Array Value} {R : Ending → World → Prop} (hw : Region.wanted o (yielded ops a.tmps) = true)
    (hr : (execOp a.eval o).run P w = .ok (.enter f args) w) (hc : Calls P f args w R)
    (h : ∀ e w', R e w' → ∃ v, e = .returned v ∧ S w' ∧ wpPi P ops Q S rest (a.put o.dst v) w') : wpPi P ops Q S ((o, true) :: rest) a w :=
  wpPi_act hw fun K hK => by
    unfold Oper.wp
    rw [hr]
    refine hc.mono fun e w' he => ?_
    obtain ⟨v, rfl, hS, h'⟩ := h e w' he
    exact hK _ _ ⟨hS, h'⟩
attribute [irreducible] wpPi
end pi
end Go.Gl

/- A region that draws its order whose last operation waits for all others: behind it the region's condition on the world need not hold. -/
namespace Go.Gl
open Go Go.RowKit
section last
variable {P : Program} {ops : Array Oper} {Q : Exit → Act → World → Prop} {S : World → Prop}

/-- As the kit's 'wpAnyH'; behind 'last' S is not asked. -/
def wpAnyL (P : Program) (ops : Array Oper) (Q : Exit → Act → World → Prop) (S : World → Prop) (last : Nat) : Nat → Array Bool → Act → World → Prop
  | 0, listed, a, w => Region.ready .any ops listed = [] ∧ Q .normal a w
  | fuel + 1, listed, a, w =>
    (Region.ready .any ops listed = [] → Q .normal a w) ∧
    ∀ i ∈ Region.ready .any ops listed, wpOp P ops Q i (fun a' w' => (i ≠ last → S w') ∧ wpAnyL P ops Q S last fuel (listed.setIfInBounds i true) a' w') a w

theorem wpAny_of_last {last : Nat} : ∀ (fuel : Nat) (listed : Array Bool) (a : Act) (w : World), wpAnyL P ops Q S last fuel listed a w → wpAny P .any ops Q fuel listed a w
  | 0, _, _, _, h => h
  | fuel + 1, _, _, _, h => ⟨h.1, fun i hi => wpOp_mono (fun a' w' h' => wpAny_of_last fuel _ a' w' h'.2) (h.2 i hi)⟩

/-- i waits for k, through others too. -/
def waitsFor (ops : Array Oper) : Nat → Nat → Nat → Bool
  | 0, _, _ => false
  | n + 1, i, k =>
    match ops[i]? with
    | none => false
    | some o => o.after.any fun e => Region.binds .any e && (decide (e.on = k) || waitsFor ops n e.on k)

/-- Who has come up, those that it waits for have too. -/
def Closed (ops : Array Oper) (listed : Array Bool) : Prop :=
  ∀ (k : Nat) (o : Oper), ops[k]? = some o → listed.getD k false = true → ∀ e ∈ o.after, Region.binds .any e = true → listed.getD e.on false = true

theorem Closed.list {listed : Array Bool} (h : Closed ops listed) {i : Nat} (hi : i ∈ Region.ready .any ops listed) : Closed ops (listed.setIfInBounds i true) := by
  intro k o hk hl e he hb
  have up : ∀ j, listed.getD j false = true → (listed.setIfInBounds i true).getD j false = true := fun j hj => by
    by_cases hij : i = j
    · subst hij
      have : i < listed.size := by
        rcases Nat.lt_or_ge i listed.size with h' | h'
        · exact h'
        · simp [Array.getElem?_eq_none h'] at hj
      simp [this]
    · rw [getD_set_ne false hij]; exact hj
  by_cases hik : i = k
  · subst hik
    obtain ⟨_, o', ho', hall⟩ := mem_ready.1 hi
    rw [hk] at ho'; cases ho'
    exact up _ (hall e he hb)
  · rw [getD_set_ne false hik] at hl
    exact up _ (h k o hk hl e he hb)

theorem waitsFor_spec {listed : Array Bool} (h : Closed ops listed) : ∀ (n i k : Nat), waitsFor ops n i k = true → (∀ o, ops[i]? = some o → ∀ e ∈ o.after, Region.binds .any e = true → listed.getD e.on false = true) → listed.getD k false = true
  | 0, _, _, hw, _ => by simp [waitsFor] at hw
  | n + 1, i, k, hw, hd => by
    unfold waitsFor at hw
    cases ho : ops[i]? with
    | none => simp [ho] at hw
    | some o =>
      simp only [ho, Array.any_eq_true', Bool.and_eq_true, Bool.or_eq_true, decide_eq_true_eq] at hw
      obtain ⟨e, he, hb, hk⟩ := hw
      have h1 := hd o ho e he hb
      rcases hk with hk | hk
      · rw [← hk]; exact h1
      · exact waitsFor_spec h n e.on k hk fun o' ho' e' he' hb' => h e.on o' ho' h1 e' he' hb'

/-- 'last' waits for all others. -/
def lastOk (ops : Array Oper) (last : Nat) : Bool := (List.range ops.size).all fun k => decide (k = last) || waitsFor ops 3 last k

theorem lastOk_spec {last : Nat} (h : lastOk ops last = true) {listed : Array Bool} (hcl : Closed ops listed) (hr : last ∈ Region.ready .any ops listed) {i : Nat} (hi : i ∈ Region.ready .any ops listed) : i = last := by
  obtain ⟨h1, o, ho, hall⟩ := mem_ready.1 hr
  obtain ⟨g1, oi, hoi, _⟩ := mem_ready.1 hi
  unfold lastOk at h
  simp only [List.all_eq_true, List.mem_range] at h
  have hlt : i < ops.size := by
    rcases Nat.lt_or_ge i ops.size with h2 | h2
    · exact h2
    · rw [Array.getElem?_eq_none h2] at hoi; cases hoi
  have h2 := h i hlt
  simp only [Bool.or_eq_true, decide_eq_true_eq] at h2
  rcases h2 with h2 | h2
  · exact h2
  · have h3 := waitsFor_spec hcl 3 last i h2 (fun o' ho' => by rw [ho] at ho'; cases ho'; exact hall)
    rcases Nat.lt_or_ge i listed.size with h' | h'
    · simp [h'] at g1 h3; rw [g1] at h3; cases h3
    · simp [Array.getElem?_eq_none h'] at h3

theorem wpAnyL_first {last i : Nat} {oi : Oper} {v : Value} (hlast : lastOk ops last = true) (hil : i ≠ last) (hi : ops[i]? = some oi) (hsel : ∀ (j : Nat) (o : Oper) cs b, ops[j]? = some o → o.op ≠ .select cs b)
    (hQ : ∀ c a w, Q (.panic c) (a.put oi.dst v) w → Q (.panic c) a w) :
    ∀ (fuel : Nat) (listed : Array Bool) (a : Act) (w : World), Closed ops listed →
      (∀ j oj, ops[j]? = some oj → j ≠ i → listed.getD j true = false → (∀ e ∈ oj.after, Region.binds .any e = true → e.on ≠ i) → oi.apart ops oj = true) →
      i ∈ Region.ready .any ops listed → YieldsIf P ops S oi v a → S w →
      wpAnyL P ops Q S last fuel (listed.setIfInBounds i true) (a.put oi.dst v) w → wpAnyL P ops Q S last (fuel + 1) listed a w := by
  intro fuel
  induction fuel with
  | zero =>
    intro listed a w _ _ hr hy hS H
    refine ⟨fun h => (by rw [h] at hr; cases hr), fun j hj => ?_⟩
    by_cases hji : j = i
    · subst hji; exact hy.wpOp hi hS ⟨fun _ => hS, H⟩
    · have := ready_mono hj hji
      rw [H.1] at this
      cases this
  | succ fuel ih =>
    intro listed a w hcl hfree hr hy hS H
    refine ⟨fun h => (by rw [h] at hr; cases hr), fun j hj => ?_⟩
    by_cases hji : j = i
    · subst hji; exact hy.wpOp hi hS ⟨fun _ => hS, H⟩
    · have hjl : j ≠ last := fun e => hil (by subst e; exact lastOk_spec hlast hcl hj hr)
      have h1 := H.2 j (ready_mono hj hji)
      obtain ⟨hjun, oj, hoj, hall⟩ := mem_ready.1 hj
      have hnot : ∀ e ∈ oj.after, Region.binds .any e = true → e.on ≠ i := fun e he hb heq => by
        have h1 := hall e he hb
        have h0 := (mem_ready.1 hr).1
        rw [heq] at h1
        rcases Nat.lt_or_ge i listed.size with h' | h'
        · simp [h'] at h0 h1; rw [h0] at h1; cases h1
        · simp [Array.getElem?_eq_none h'] at h1
      have h2 := wpOp_putIf hoj (hfree j oj hoj hji hjun hnot) (fun cs b => hsel i oi cs b hi) (fun cs b => hsel j oj cs b hoj) hQ hy h1
      have hfree' : ∀ k ok, ops[k]? = some ok → k ≠ i → (listed.setIfInBounds j true).getD k true = false →
          (∀ e ∈ ok.after, Region.binds .any e = true → e.on ≠ i) → oi.apart ops ok = true := fun k ok hk hki hun hno => by
        refine hfree k ok hk hki ?_ hno
        by_cases hjk : j = k
        · subst hjk; exact hjun
        · rw [getD_set_ne true hjk] at hun; exact hun
      refine wpOp_mono (fun a' w' h3 => ⟨h3.2.1, ih (listed.setIfInBounds j true) a' w' (hcl.list hj) hfree' (ready_mono hr (Ne.symm hji)) h3.1 (h3.2.1 hjl) ?_⟩) h2
      rw [Array.setIfInBounds_comm _ _ hji]
      exact h3.2.2

/-- What is left where 'o' is the last. -/
def lastQ (P : Program) (ops : Array Oper) (Q : Exit → Act → World → Prop) (o : Oper) : Exit → Act → World → Prop
  | .normal, a, w => if Region.wanted o (yielded ops a.tmps) then o.wp P a w (fun a' w' => Q .normal a' w') Q else Q .normal (a.put o.dst undef) w
  | e, a, w => Q e a w

theorem lastQ_normal {o : Oper} {a : Act} {w : World} : lastQ P ops Q o .normal a w = if Region.wanted o (yielded ops a.tmps) then o.wp P a w (fun a' w' => Q .normal a' w') Q else Q .normal (a.put o.dst undef) w := rfl

theorem wp_lastQ {o o' : Oper} {a : Act} {w : World} {K K' : Act → World → Prop} (h : ∀ a w, K a w → K' a w) (hh : o.wp P a w K (lastQ P ops Q o')) : o.wp P a w K' Q := by
  unfold Oper.wp at *
  generalize (execOp a.eval o).run P w = r at *
  cases r with
  | ok n w' =>
    cases n <;> simp only [Oper.upon] at hh ⊢
    case value u => exact h _ _ hh
    case skip => exact h _ _ hh
    case defer d => exact h _ _ hh
    case enter f args =>
      refine Calls.mono hh fun e w'' he => ?_
      cases e with
      | returned u => exact h _ _ he
      | panicked c => exact he
      | outgrown => exact he
    case row row args => exact Rows.mono hh fun u w'' he => h _ _ he
  | halt x w' =>
    cases x <;> simp only [Oper.upon] at hh ⊢
    case panic u => exact hh

def checkPl (ops : Array Oper) (last : Nat) : List (Nat × Bool) → Array Bool → Bool
  | [], listed => decide (Region.ready .any ops listed = [last]) && (Region.ready .any ops (listed.setIfInBounds last true)).isEmpty
  | (i, false) :: rest, listed => decide (i ≠ last) && (Region.ready .any ops listed).contains i && Region.free .any ops listed i && checkPl ops last rest (listed.setIfInBounds i true)
  | (i, true) :: rest, listed => decide (i ≠ last) && decide (Region.ready .any ops listed = [i]) && checkPl ops last rest (listed.setIfInBounds i true)

theorem wpAnyL_of_pi {l : List Oper} {last : Nat} (hlast : lastOk l.toArray last = true) (hs : Region.noSelect l.toArray = true) (hQ : ∀ c a d v w, Q (.panic c) (Act.put a d v) w → Q (.panic c) a w) : ∀ (π : List (Nat × Bool)) (listed : Array Bool) (a : Act) (w : World), Closed l.toArray listed →
    checkPl l.toArray last π listed = true → S w → wpPi P l.toArray (lastQ P l.toArray Q (nth l last)) S (arrange l π) a w → wpAnyL P l.toArray Q S last (π.length + 1) listed a w
  | [], listed, a, w, hcl, hc, hS, h => by
    simp only [checkPl, Bool.and_eq_true, decide_eq_true_eq] at hc
    refine ⟨fun h0 => (by rw [h0] at hc; cases hc.1), fun j hj => ?_⟩
    rw [hc.1] at hj
    have hji : j = last := by simpa using hj
    subst hji
    have hi : l.toArray[j]? = some (nth l j) := by
      have := ready_lt (ops := l.toArray) (listed := listed) (i := j) (by rw [hc.1]; simp)
      simpa using nth_of_lt (l := l) (by simpa using this)
    have h' : lastQ P l.toArray Q (nth l j) .normal a w := by
      unfold arrange wpPi at h; exact h
    rw [lastQ_normal] at h'
    unfold wpOp
    simp only [hi]
    split
    · rename_i hw
      rw [if_pos hw] at h'
      exact .inl (Oper.wp_mono (fun a' w' h2 => ⟨fun e => absurd rfl e, by simpa using hc.2, h2⟩) h')
    · rename_i hw
      rw [if_neg hw] at h'
      exact ⟨fun e => absurd rfl e, by simpa using hc.2, h'⟩
  | (i, false) :: rest, listed, a, w, hcl, hc, hS, h => by
    simp only [checkPl, Bool.and_eq_true, decide_eq_true_eq] at hc
    obtain ⟨v, hy, hr⟩ : ∃ v, YieldsIf P l.toArray S (nth l i) v a ∧ wpPi P l.toArray (lastQ P l.toArray Q (nth l last)) S (arrange l rest) (a.put (nth l i).dst v) w := by
      unfold arrange wpPi at h; exact h
    have hi := ready_lt (by simpa using hc.1.1.2)
    have hi' : l.toArray[i]? = some (nth l i) := by simpa using nth_of_lt (l := l) (by simpa using hi)
    exact wpAnyL_first hlast hc.1.1.1 hi' (Region.noSelect_spec hs) (fun c a w => hQ c a _ _ w) _ listed a w hcl (Region.free_spec hi' hc.1.2) (by simpa using hc.1.1.2) hy hS (wpAnyL_of_pi hlast hs hQ rest _ _ _ (hcl.list (by simpa using hc.1.1.2)) hc.2 hS hr)
  | (i, true) :: rest, listed, a, w, hcl, hc, hS, h => by
    simp only [checkPl, Bool.and_eq_true, decide_eq_true_eq] at hc
    refine ⟨fun h0 => (by rw [h0] at hc; cases hc.1.2), fun j hj => ?_⟩
    rw [hc.1.2] at hj
    have hji : j = i := by simpa using hj
    subst hji
    have hi : l.toArray[j]? = some (nth l j) := by
      have := ready_lt (ops := l.toArray) (listed := listed) (i := j) (by rw [hc.1.2]; simp)
      simpa using nth_of_lt (l := l) (by simpa using this)
    unfold arrange wpPi at h
    unfold wpOp
    simp only [hi]
    split
    · rename_i hw
      rw [if_pos hw] at h
      exact .inl (wp_lastQ (fun a' w' h' => ⟨fun _ => h'.1, wpAnyL_of_pi hlast hs hQ rest _ _ _ (hcl.list (by rw [hc.1.2]; simp)) hc.2 h'.1 h'.2⟩) h)
    · rename_i hw
      rw [if_neg hw] at h
      exact ⟨fun _ => h.1, wpAnyL_of_pi hlast hs hQ rest _ _ _ (hcl.list (by rw [hc.1.2]; simp)) hc.2 h.1 h.2⟩

theorem wp_region_last {id : Nat} {a : Act} {w : World} {l : List Oper} (S : World → Prop) (π : List (Nat × Bool)) (last : Nat) (hm : P.follows .mixedOrders = true)
    (hB : (lastOk l.toArray last && Region.noSelect l.toArray && checkPl l.toArray last π (Array.replicate l.toArray.size false) && decide (π.length + 1 = l.toArray.size)) = true)
    (hQ : ∀ c a d v w, Q (.panic c) (Act.put a d v) w → Q (.panic c) a w) (hS : S w.drew) (h : wpPi P l.toArray (lastQ P l.toArray Q (nth l last)) S (arrange l π) a w.drew) : (Code.region id l.toArray true).wp P Q a w := by
  simp only [Bool.and_eq_true, decide_eq_true_eq] at hB
  refine wp_region_any hm (wpAny_of_last (S := S) (last := last) _ _ _ _ ?_)
  rw [← hB.2]
  exact wpAnyL_of_pi hB.1.1.1 hB.1.1.2 hQ π _ _ _ (fun k o _ hl => by simp [Array.getD] at hl) (by rw [hB.2]; exact hB.1.2) hS h

theorem lastQ_act {o : Oper} {a : Act} {w : World} (hw : Region.wanted o (yielded ops a.tmps) = true)
    (h : ∀ K : Act → World → Prop, (∀ a w, Q .normal a w → K a w) → o.wp P a w K Q) : lastQ P ops Q o .normal a w := by
  rw [lastQ_normal, if_pos hw]
  exact h _ (fun _ _ h => h)
end last
end Go.Gl

/- A region that draws its order, behind its quiet operations: whichever operation comes up next. -/
namespace Go.Gl
open Go Go.RowKit
section part
variable {P : Program} {ops : Array Oper} {Q : Exit → Act → World → Prop} {S : World → Prop}

/-- What is left of a region behind some quiet operations. -/
def restQ (P : Program) (ops : Array Oper) (Q : Exit → Act → World → Prop) (S : World → Prop) (fuel : Nat) (listed : Array Bool) : Exit → Act → World → Prop
  | .normal, a, w => wpAnyH P .any ops Q S fuel listed a w
  | e, a, w => Q e a w

def checkQt (ops : Array Oper) (goal : Array Bool) : List (Nat × Bool) → Array Bool → Bool
  | [], listed => listed == goal
  | (_, true) :: _, _ => false
  | (i, false) :: rest, listed => (Region.ready .any ops listed).contains i && Region.free .any ops listed i && checkQt ops goal rest (listed.setIfInBounds i true)

theorem wpAnyH_of_part {l : List Oper} {fuel : Nat} {goal : Array Bool} (hs : Region.noSelect l.toArray = true) (hQ : ∀ c a d v w, Q (.panic c) (Act.put a d v) w → Q (.panic c) a w) : ∀ (π : List (Nat × Bool)) (listed : Array Bool) (a : Act) (w : World),
    checkQt l.toArray goal π listed = true → S w → wpPi P l.toArray (restQ P l.toArray Q S fuel goal) S (arrange l π) a w → wpAnyH P .any l.toArray Q S (π.length + fuel) listed a w
  | [], listed, a, w, hc, hS, h => by
    simp only [checkQt, beq_iff_eq] at hc
    unfold arrange wpPi at h
    rw [List.length_nil, Nat.zero_add, hc]
    exact h
  | (i, true) :: rest, listed, a, w, hc, hS, h => by simp [checkQt] at hc
  | (i, false) :: rest, listed, a, w, hc, hS, h => by
    simp only [checkQt, Bool.and_eq_true] at hc
    unfold arrange wpPi at h
    obtain ⟨v, hy, hr⟩ := h
    have hi := ready_lt (by simpa using hc.1.1)
    have := wpAnyH_take (fuel := rest.length + fuel) (by simpa using nth_of_lt (l := l) (by simpa using hi)) hs hc.1.2 hc.1.1 (fun c a w => hQ c a _ _ w) hy hS (wpAnyH_of_part hs hQ rest _ _ _ hc.2 hS hr)
    rw [List.length_cons, show rest.length + 1 + fuel = rest.length + fuel + 1 by omega]
    exact this

theorem wp_region_part {id : Nat} {a : Act} {w : World} {l : List Oper} (S : World → Prop) (π : List (Nat × Bool)) (fuel : Nat) (goal : Array Bool) (hm : P.follows .mixedOrders = true)
    (hB : (Region.noSelect l.toArray && checkQt l.toArray goal π (Array.replicate l.toArray.size false) && decide (π.length + fuel = l.toArray.size)) = true)
    (hQ : ∀ c a d v w, Q (.panic c) (Act.put a d v) w → Q (.panic c) a w) (hS : S w.drew) (h : wpPi P l.toArray (restQ P l.toArray Q S fuel goal) S (arrange l π) a w.drew) : (Code.region id l.toArray true).wp P Q a w := by
  simp only [Bool.and_eq_true, decide_eq_true_eq] at hB
  refine wp_region_held (S := S) hm ?_
  rw [← hB.2]
  exact wpAnyH_of_part hB.1.1 hQ π _ _ _ (by rw [hB.2]; exact hB.1.2) hS h

theorem wpOp_run {i : Nat} {o : Oper} {a : Act} {w w' : World} {v : Value} {K : Act → World → Prop} (hi : ops[i]? = some o) (hw : Region.wanted o (yielded ops a.tmps) = true) (hr : (execOp a.eval o).run P w = .ok (.value v) w') (h : K (a.put o.dst v) w') : wpOp P ops Q i K a w := by
  unfold wpOp
  simp only [hi, hw, if_true]
  refine .inl ?_
  unfold Oper.wp
  rw [hr]
  exact h

theorem wpOp_skip {i : Nat} {o : Oper} {a : Act} {w w' : World} {K : Act → World → Prop} (hi : ops[i]? = some o) (hw : Region.wanted o (yielded ops a.tmps) = true) (hr : (execOp a.eval o).run P w = .ok .skip w') (h : K (a.put o.dst undef) w') : wpOp P ops Q i K a w := by
  unfold wpOp
  simp only [hi, hw, if_true]
  refine .inl ?_
  unfold Oper.wp
  rw [hr]
  exact h

theorem wpOp_call {i : Nat} {o : Oper} {a : Act} {w : World} {f : FuncId} {args : Array Value} {R : Ending → World → Prop} {K : Act → World → Prop} (hi : ops[i]? = some o) (hw : Region.wanted o (yielded ops a.tmps) = true) (hr : (execOp a.eval o).run P w = .ok (.enter f args) w) (hc : Calls P f args w R)
    (h : ∀ e w', R e w' → ∃ v, e = .returned v ∧ K (a.put o.dst v) w') : wpOp P ops Q i K a w := by
  unfold wpOp
  simp only [hi, hw, if_true]
  refine .inl ?_
  unfold Oper.wp
  rw [hr]
  refine hc.mono fun e w' he => ?_
  obtain ⟨v, rfl, h'⟩ := h e w' he
  exact h'
end part
end Go.Gl

/- A region that draws its order whose last operations (a set) wait for all others: behind them the region's condition on the world need not hold. -/
namespace Go.Gl
open Go Go.RowKit
section exempt
variable {P : Program} {ops : Array Oper} {Q : Exit → Act → World → Prop} {S : World → Prop}

/-- As the kit's 'wpAnyH'; behind the operations of 'ex' S is not asked. -/
def wpAnyX (P : Program) (ops : Array Oper) (Q : Exit → Act → World → Prop) (S : World → Prop) (ex : List Nat) : Nat → Array Bool → Act → World → Prop
  | 0, listed, a, w => Region.ready .any ops listed = [] ∧ Q .normal a w
  | fuel + 1, listed, a, w =>
    (Region.ready .any ops listed = [] → Q .normal a w) ∧
    ∀ i ∈ Region.ready .any ops listed, wpOp P ops Q i (fun a' w' => (ex.contains i = false → S w') ∧ wpAnyX P ops Q S ex fuel (listed.setIfInBounds i true) a' w') a w

theorem wpAny_of_X {ex : List Nat} : ∀ (fuel : Nat) (listed : Array Bool) (a : Act) (w : World), wpAnyX P ops Q S ex fuel listed a w → wpAny P .any ops Q fuel listed a w
  | 0, _, _, _, h => h
  | fuel + 1, _, _, _, h => ⟨h.1, fun i hi => wpOp_mono (fun a' w' h' => wpAny_of_X fuel _ a' w' h'.2) (h.2 i hi)⟩

/-- Those of 'ex' wait for all others. -/
def exOk (ops : Array Oper) (ex : List Nat) : Bool := ex.all fun e => (List.range ops.size).all fun k => ex.contains k || waitsFor ops 8 e k

theorem exOk_spec {ex : List Nat} (h : exOk ops ex = true) {listed : Array Bool} (hcl : Closed ops listed) {e : Nat} (he : ex.contains e = true) (hr : e ∈ Region.ready .any ops listed) {i : Nat} (hi : i ∈ Region.ready .any ops listed) : ex.contains i = true := by
  obtain ⟨h1, o, ho, hall⟩ := mem_ready.1 hr
  obtain ⟨g1, oi, hoi, _⟩ := mem_ready.1 hi
  unfold exOk at h
  simp only [List.all_eq_true, List.mem_range] at h
  have hlt : i < ops.size := by
    rcases Nat.lt_or_ge i ops.size with h2 | h2
    · exact h2
    · rw [Array.getElem?_eq_none h2] at hoi; cases hoi
  have h2 := h e (by simpa using he) i hlt
  simp only [Bool.or_eq_true] at h2
  rcases h2 with h2 | h2
  · exact h2
  · exfalso
    have h3 := waitsFor_spec hcl 8 e i h2 (fun o' ho' => by rw [ho] at ho'; cases ho'; exact hall)
    rcases Nat.lt_or_ge i listed.size with h' | h'
    · simp [h'] at g1 h3; rw [g1] at h3; cases h3
    · simp [Array.getElem?_eq_none h'] at h3

theorem wpAnyX_first {ex : List Nat} {i : Nat} {oi : Oper} {v : Value} (hex : exOk ops ex = true) (hil : ex.contains i = false) (hi : ops[i]? = some oi) (hsel : ∀ (j : Nat) (o : Oper) cs b, ops[j]? = some o → o.op ≠ .select cs b)
    (hQ : ∀ c a w, Q (.panic c) (a.put oi.dst v) w → Q (.panic c) a w) :
    ∀ (fuel : Nat) (listed : Array Bool) (a : Act) (w : World), Closed ops listed →
      (∀ j oj, ops[j]? = some oj → j ≠ i → listed.getD j true = false → (∀ e ∈ oj.after, Region.binds .any e = true → e.on ≠ i) → oi.apart ops oj = true) →
      i ∈ Region.ready .any ops listed → YieldsIf P ops S oi v a → S w →
      wpAnyX P ops Q S ex fuel (listed.setIfInBounds i true) (a.put oi.dst v) w → wpAnyX P ops Q S ex (fuel + 1) listed a w := by
  intro fuel
  induction fuel with
  | zero =>
    intro listed a w _ _ hr hy hS H
    refine ⟨fun h => (by rw [h] at hr; cases hr), fun j hj => ?_⟩
    by_cases hji : j = i
    · subst hji; exact hy.wpOp hi hS ⟨fun _ => hS, H⟩
    · have := ready_mono hj hji
      rw [H.1] at this
      cases this
  | succ fuel ih =>
    intro listed a w hcl hfree hr hy hS H
    refine ⟨fun h => (by rw [h] at hr; cases hr), fun j hj => ?_⟩
    by_cases hji : j = i
    · subst hji; exact hy.wpOp hi hS ⟨fun _ => hS, H⟩
    · have hjl : ex.contains j = false := by
        cases hc : ex.contains j with
        | false => rfl
        | true => rw [exOk_spec hex hcl hc hj hr] at hil; cases hil
      have h1 := H.2 j (ready_mono hj hji)
      obtain ⟨hjun, oj, hoj, hall⟩ := mem_ready.1 hj
      have hnot : ∀ e ∈ oj.after, Region.binds .any e = true → e.on ≠ i := fun e he hb heq => by
        have h1 := hall e he hb
        have h0 := (mem_ready.1 hr).1
        rw [heq] at h1
        rcases Nat.lt_or_ge i listed.size with h' | h'
        · simp [h'] at h0 h1; rw [h0] at h1; cases h1
        · simp [Array.getElem?_eq_none h'] at h1
      have h2 := wpOp_putIf hoj (hfree j oj hoj hji hjun hnot) (fun cs b => hsel i oi cs b hi) (fun cs b => hsel j oj cs b hoj) hQ hy h1
      have hfree' : ∀ k ok, ops[k]? = some ok → k ≠ i → (listed.setIfInBounds j true).getD k true = false →
          (∀ e ∈ ok.after, Region.binds .any e = true → e.on ≠ i) → oi.apart ops ok = true := fun k ok hk hki hun hno => by
        refine hfree k ok hk hki ?_ hno
        by_cases hjk : j = k
        · subst hjk; exact hjun
        · rw [getD_set_ne true hjk] at hun; exact hun
      refine wpOp_mono (fun a' w' h3 => ⟨h3.2.1, ih (listed.setIfInBounds j true) a' w' (hcl.list hj) hfree' (ready_mono hr (Ne.symm hji)) h3.1 (h3.2.1 hjl) ?_⟩) h2
      rw [Array.setIfInBounds_comm _ _ hji]
      exact h3.2.2

/-- What is left of a region behind some quiet operations. -/
def restX (P : Program) (ops : Array Oper) (Q : Exit → Act → World → Prop) (S : World → Prop) (ex : List Nat) (fuel : Nat) (listed : Array Bool) : Exit → Act → World → Prop
  | .normal, a, w => wpAnyX P ops Q S ex fuel listed a w
  | e, a, w => Q e a w

def checkX (ops : Array Oper) (ex : List Nat) (goal : Array Bool) : List (Nat × Bool) → Array Bool → Bool
  | [], listed => listed == goal
  | (_, true) :: _, _ => false
  | (i, false) :: rest, listed => !ex.contains i && (Region.ready .any ops listed).contains i && Region.free .any ops listed i && checkX ops ex goal rest (listed.setIfInBounds i true)

theorem wpAnyX_of_part {l : List Oper} {ex : List Nat} {fuel : Nat} {goal : Array Bool} (hex : exOk l.toArray ex = true) (hs : Region.noSelect l.toArray = true) (hQ : ∀ c a d v w, Q (.panic c) (Act.put a d v) w → Q (.panic c) a w) : ∀ (π : List (Nat × Bool)) (listed : Array Bool) (a : Act) (w : World), Closed l.toArray listed →
    checkX l.toArray ex goal π listed = true → S w → wpPi P l.toArray (restX P l.toArray Q S ex fuel goal) S (arrange l π) a w → wpAnyX P l.toArray Q S ex (π.length + fuel) listed a w
  | [], listed, a, w, hcl, hc, hS, h => by
    simp only [checkX, beq_iff_eq] at hc
    unfold arrange wpPi at h
    rw [List.length_nil, Nat.zero_add, hc]
    exact h
  | (i, true) :: rest, listed, a, w, hcl, hc, hS, h => by simp [checkX] at hc
  | (i, false) :: rest, listed, a, w, hcl, hc, hS, h => by
    simp only [checkX, Bool.and_eq_true, Bool.not_eq_true'] at hc
    unfold arrange wpPi at h
    obtain ⟨v, hy, hr⟩ := h
    have hmem : i ∈ Region.ready .any l.toArray listed := by simpa using hc.1.1.2
    have hi := ready_lt hmem
    have hi' : l.toArray[i]? = some (nth l i) := by simpa using nth_of_lt (l := l) (by simpa using hi)
    have := wpAnyX_first hex hc.1.1.1 hi' (Region.noSelect_spec hs) (fun c a w => hQ c a _ _ w) (rest.length + fuel) listed a w hcl (Region.free_spec hi' hc.1.2) hmem hy hS (wpAnyX_of_part hex hs hQ rest _ _ _ (hcl.list hmem) hc.2 hS hr)
    rw [List.length_cons, show rest.length + 1 + fuel = rest.length + fuel + 1 by omega]
    exact this

theorem wp_region_X {id : Nat} {a : Act} {w : World} {l : List Oper} (S : World → Prop) (ex : List Nat) (π : List (Nat × Bool)) (fuel : Nat) (goal : Array Bool) (hm : P.follows .mixedOrders = true)
    (hB : (exOk l.toArray ex && Region.noSelect l.toArray && checkX l.toArray ex goal π (Array.replicate l.toArray.size false) && decide (π.length + fuel = l.toArray.size)) = true)
    (hQ : ∀ c a d v w, Q (.panic c) (Act.put a d v) w → Q (.panic c) a w) (hS : S w.drew) (h : wpPi P l.toArray (restX P l.toArray Q S ex fuel goal) S (arrange l π) a w.drew) : (Code.region id l.toArray true).wp P Q a w := by
  simp only [Bool.and_eq_true, decide_eq_true_eq] at hB
  refine wp_region_any hm (wpAny_of_X (S := S) (ex := ex) _ _ _ _ ?_)
  rw [← hB.2]
  exact wpAnyX_of_part hB.1.1.1 hB.1.1.2 hQ π _ _ _ (fun k o _ hl => by simp [Array.getD] at hl) (by rw [hB.2]; exact hB.1.2) hS h

def closedB (ops : Array Oper) (listed : Array Bool) : Bool := (List.range ops.size).all fun k => !(listed.getD k false) || match ops[k]? with | none => true | some o => o.after.all fun e => !(Region.binds .any e) || listed.getD e.on false

theorem closed_of {listed : Array Bool} (h : closedB ops listed = true) : Closed ops listed := by
  intro k o hk hl e he hb
  unfold closedB at h
  simp only [List.all_eq_true, List.mem_range] at h
  have hlt : k < ops.size := by
    rcases Nat.lt_or_ge k ops.size with h2 | h2
    · exact h2
    · rw [Array.getElem?_eq_none h2] at hk; cases hk
  have h1 := h k hlt
  rw [hl, hk] at h1
  simp only [Bool.not_true, Bool.false_or, Array.all_eq_true', Bool.or_eq_true, Bool.not_eq_true'] at h1
  rcases h1 e he with h2 | h2
  · rw [hb] at h2; cases h2
  · exact h2

/-- A quiet operation in the midst. -/
theorem wpAnyX_take {ex : List Nat} {i : Nat} {oi : Oper} {v : Value} {fuel : Nat} {listed : Array Bool} {a : Act} {w : World} (hi : ops[i]? = some oi)
    (hB : (exOk ops ex && !ex.contains i && Region.noSelect ops && closedB ops listed && Region.free .any ops listed i && (Region.ready .any ops listed).contains i) = true)
    (hQ : ∀ c a w, Q (.panic c) (a.put oi.dst v) w → Q (.panic c) a w) (hy : YieldsIf P ops S oi v a) (hS : S w)
    (h : wpAnyX P ops Q S ex fuel (listed.setIfInBounds i true) (a.put oi.dst v) w) : wpAnyX P ops Q S ex (fuel + 1) listed a w := by
  simp only [Bool.and_eq_true, Bool.not_eq_true'] at hB
  exact wpAnyX_first hB.1.1.1.1.1 hB.1.1.1.1.2 hi (Region.noSelect_spec hB.1.1.1.2) hQ fuel listed a w (closed_of hB.1.1.2) (Region.free_spec hi hB.1.2) (by simpa using hB.2) hy hS h

/-- Whichever of those that may come up comes up. -/
theorem wpAnyX_all {ex : List Nat} {rs : List Nat} {fuel : Nat} {listed : Array Bool} {a : Act} {w : World} (hr : Region.ready .any ops listed = rs) (hne : rs ≠ [])
    (h : ∀ i ∈ rs, wpOp P ops Q i (fun a' w' => (ex.contains i = false → S w') ∧ wpAnyX P ops Q S ex fuel (listed.setIfInBounds i true) a' w') a w) : wpAnyX P ops Q S ex (fuel + 1) listed a w :=
  ⟨fun h0 => absurd (hr ▸ h0) hne, hr ▸ h⟩

theorem wpAnyX_done {ex : List Nat} {listed : Array Bool} {a : Act} {w : World} (hr : Region.ready .any ops listed = []) (h : Q .normal a w) : ∀ fuel, wpAnyX P ops Q S ex fuel listed a w
  | 0 => ⟨hr, h⟩
  | _ + 1 => ⟨fun _ => h, by rw [hr]; simp⟩

theorem wpOp_act {i : Nat} {o : Oper} {a : Act} {w : World} {K : Act → World → Prop} (hi : ops[i]? = some o) (hw : Region.wanted o (yielded ops a.tmps) = true) (h : ∀ K' : Act → World → Prop, (∀ a w, K a w → K' a w) → o.wp P a w K' Q) : wpOp P ops Q i K a w := by
  unfold wpOp
  simp only [hi, hw, if_true]
  exact .inl (h _ (fun _ _ h => h))
end exempt
end Go.Gl

/- A region that draws its order: what each operation does is shown once, whatever has run before it. -/
namespace Go.Gl
open Go Go.RowKit

/-- The frames a and b are alike but for the slots of D. -/
structure FrameBut (D : List Nat) (a b : Act) : Prop where
  size : b.tmps.size = a.tmps.size
  same : ∀ i, D.contains i = false → b.tmps[i]? = a.tmps[i]?
  defers : b.defers = a.defers

theorem FrameBut.refl (D : List Nat) (a : Act) : FrameBut D a a := ⟨rfl, fun _ _ => rfl, rfl⟩
theorem FrameBut.put {D : List Nat} {a b : Act} (h : FrameBut D a b) {k : Nat} (hk : D.contains k = true) (v : Value) : FrameBut D a (b.put (some k) v) := by
  refine ⟨by simpa [Act.put] using h.size, fun i hi => ?_, by simpa [Act.put] using h.defers⟩
  rw [← h.same i hi]
  simp only [Act.put]
  rw [Array.getElem?_setIfInBounds, if_neg (fun hc => by subst hc; rw [hk] at hi; cases hi)]

theorem fold_put (a : Act) : ∀ (D : List Nat) (x : Act), x.tmps.size = a.tmps.size → (D.foldl (fun x d => x.put (some d) (a.tmps.getD d undef)) x).tmps.size = a.tmps.size ∧ (D.foldl (fun x d => x.put (some d) (a.tmps.getD d undef)) x).defers = x.defers ∧ ∀ i, (D.foldl (fun x d => x.put (some d) (a.tmps.getD d undef)) x).tmps[i]? = if D.contains i = true then a.tmps[i]? else x.tmps[i]?
  | [], x, h => ⟨h, rfl, fun i => by simp⟩
  | d :: D, x, h => by
    obtain ⟨h1, h2, h3⟩ := fold_put a D (x.put (some d) (a.tmps.getD d undef)) (by simpa [Act.put] using h)
    refine ⟨h1, h2.trans rfl, fun i => ?_⟩
    rw [List.foldl_cons, h3 i]
    by_cases hc : D.contains i = true
    · rw [if_pos hc, if_pos (by simp at hc ⊢; exact .inr hc)]
    · rw [if_neg hc]
      by_cases hid : d = i
      · subst hid
        rw [if_pos (by simp)]
        simp only [Act.put]
        rw [Array.getElem?_setIfInBounds, if_pos rfl]
        split
        · rename_i hl
          rw [h] at hl
          simp [Array.getD, hl]
        · rename_i hl
          rw [h] at hl
          rw [Array.getElem?_eq_none (by omega)]
      · rw [if_neg (by simp at hc ⊢; exact ⟨fun e => hid e.symm, hc⟩)]
        simp only [Act.put]
        rw [Array.getElem?_setIfInBounds, if_neg hid]

theorem FrameBut.fill {D : List Nat} {a0 a : Act} (h : FrameBut D a0 a) : a = D.foldl (fun x d => x.put (some d) (a.tmps.getD d undef)) a0 := by
  obtain ⟨h1, h2, h3⟩ := fold_put a D a0 h.size.symm
  have ht : a.tmps = (D.foldl (fun x d => x.put (some d) (a.tmps.getD d undef)) a0).tmps := by
    apply Array.ext_getElem?
    intro i
    rw [h3 i]
    split
    · rfl
    · rename_i hc
      exact h.same i (by simpa using hc)
  have hd := h.defers.trans h2.symm
  generalize D.foldl (fun x d => x.put (some d) (a.tmps.getD d undef)) a0 = y at *
  obtain ⟨at', ad⟩ := a
  obtain ⟨yt, yd⟩ := y
  simp only at ht hd
  rw [ht, hd]

theorem wp_frame {P : Program} {c : Code} {Q : Exit → Act → World → Prop} {a : Act} {w : World} (h : ∀ a0 : Act, a0 = a → c.wp P Q a0 w) : c.wp P Q a w := h a rfl

theorem tmp_ne {a : Act} {k j : Nat} {v u : Value} (h : k ≠ j) (hs : a.tmps[j]? = some u) : (a.put (some k) v).tmps[j]? = some u := by
  simp only [Act.put]
  rw [Array.getElem?_setIfInBounds, if_neg h]
  exact hs
theorem tmp_same {a : Act} {k : Nat} {v : Value} (h : k < a.tmps.size) : (a.put (some k) v).tmps[k]? = some v := by
  simp only [Act.put]
  rw [Array.getElem?_setIfInBounds, if_pos rfl, if_pos h]
theorem tmp_get {a : Act} {k : Nat} {u : Value} (h : a.tmps[k]? = some u) (hk : k < a.tmps.size) : a.tmps[k] = u := by
  rw [Array.getElem?_eq_getElem hk] at h
  exact Option.some.inj h

section flow
variable {P : Program} {ops : Array Oper} {Q : Exit → Act → World → Prop}

def unl (listed : Array Bool) : Nat := listed.toList.count false

theorem count_set : ∀ (l : List Bool) (i : Nat), l[i]? = some false → (l.set i true).count false + 1 = l.count false
  | [], _, h => by simp at h
  | x :: l, 0, h => by simp at h; subst h; simp
  | x :: l, i + 1, h => by
    have := count_set l i (by simpa using h)
    simp only [List.set_cons_succ, List.count_cons]; omega

theorem unl_get {listed : Array Bool} {i : Nat} (h : listed.getD i true = false) : listed.toList[i]? = some false := by
  rw [Array.getD_eq_getD_getElem?] at h
  rw [Array.getElem?_toList]
  cases hx : listed[i]? with
  | none => rw [hx] at h; cases h
  | some x => rw [hx] at h; simp at h; rw [h]

theorem unl_set {listed : Array Bool} {i : Nat} (h : listed.getD i true = false) : unl (listed.setIfInBounds i true) + 1 = unl listed := by
  unfold unl
  rw [Array.toList_setIfInBounds]
  exact count_set _ _ (unl_get h)

/-- Every operation waits for earlier ones alone. -/
def orderly (ops : Array Oper) : Bool := (List.range ops.size).all fun k => match ops[k]? with | none => true | some o => o.after.all fun e => !(Region.binds .any e) || decide (e.on < k)

theorem orderly_spec (h : orderly ops = true) {k : Nat} {o : Oper} (hk : ops[k]? = some o) {e : Edge} (he : e ∈ o.after) (hb : Region.binds .any e = true) : e.on < k := by
  unfold orderly at h
  simp only [List.all_eq_true, List.mem_range] at h
  have h1 := h k (lt_of_getElem? hk)
  rw [hk] at h1
  simp only [Array.all_eq_true', Bool.or_eq_true, Bool.not_eq_true', decide_eq_true_eq] at h1
  rcases h1 e he with h2 | h2
  · rw [hb] at h2; cases h2
  · exact h2

theorem all_listed (h : orderly ops = true) {listed : Array Bool} (hs : listed.size = ops.size) (hr : Region.ready .any ops listed = []) : ∀ k, k < ops.size → listed.getD k true = true := by
  intro k
  induction k using Nat.strongRecOn with
  | _ k ih =>
    intro hk
    cases hl : listed.getD k true with
    | true => rfl
    | false =>
      exfalso
      have : k ∈ Region.ready .any ops listed := by
        refine mem_ready.2 ⟨hl, ops[k], by simp [hk], fun e he hb => ?_⟩
        have hlt := orderly_spec h (k := k) (o := ops[k]) (by simp [hk]) he hb
        have h1 := ih e.on hlt (by omega)
        have hsz : e.on < listed.size := by omega
        simp only [Array.getD, hsz, dif_pos] at h1 ⊢
        exact h1
      rw [hr] at this
      cases this

theorem wpAny_inv (I : Array Bool → Act → World → Prop) (hstep : ∀ i listed a w, i ∈ Region.ready .any ops listed → I listed a w → wpOp P ops Q i (fun a' w' => I (listed.setIfInBounds i true) a' w') a w)
    (hend : ∀ listed a w, Region.ready .any ops listed = [] → I listed a w → Q .normal a w) : ∀ (fuel : Nat) (listed : Array Bool) (a : Act) (w : World), unl listed ≤ fuel → I listed a w → wpAny P .any ops Q fuel listed a w
  | 0, listed, a, w, hu, hI => by
    have hr : Region.ready .any ops listed = [] := by
      cases hc : Region.ready .any ops listed with
      | nil => rfl
      | cons x xs =>
        exfalso
        have hx : x ∈ Region.ready .any ops listed := by rw [hc]; simp
        have := unl_set (mem_ready.1 hx).1
        omega
    exact ⟨hr, hend _ _ _ hr hI⟩
  | fuel + 1, listed, a, w, hu, hI => by
    refine ⟨fun hr => hend _ _ _ hr hI, fun i hi => wpOp_mono (fun a' w' h' => wpAny_inv I hstep hend fuel _ a' w' ?_ h') (hstep i listed a w hi hI)⟩
    have := unl_set (mem_ready.1 hi).1
    omega

/-- The operations' slots are apart, and within bounds. -/
def dstOk (ops : Array Oper) (D : List Nat) : Bool := (List.range ops.size).all fun i => match (ops[i]?).bind (·.dst) with
  | none => true
  | some d => D.contains d && (List.range ops.size).all fun j => i == j || (match (ops[j]?).bind (·.dst) with | none => true | some d' => d != d')

theorem dstOk_in {D : List Nat} (h : dstOk ops D = true) {i d : Nat} {o : Oper} (ho : ops[i]? = some o) (hd : o.dst = some d) : D.contains d = true := by
  unfold dstOk at h
  simp only [List.all_eq_true, List.mem_range] at h
  have h1 := h i (lt_of_getElem? ho)
  rw [ho] at h1
  simp only [Option.bind_some, hd, Bool.and_eq_true] at h1
  exact h1.1

theorem dstOk_ne {D : List Nat} (h : dstOk ops D = true) {i j d d' : Nat} {o o' : Oper} (ho : ops[i]? = some o) (hd : o.dst = some d) (hj : ops[j]? = some o') (hd' : o'.dst = some d') (hij : i ≠ j) : d ≠ d' := by
  unfold dstOk at h
  simp only [List.all_eq_true, List.mem_range] at h
  have h1 := h i (lt_of_getElem? ho)
  rw [ho] at h1
  simp only [Option.bind_some, hd, Bool.and_eq_true, List.all_eq_true, List.mem_range] at h1
  have h2 := h1.2 j (lt_of_getElem? hj)
  rw [hj] at h2
  simp only [Option.bind_some, hd', Bool.or_eq_true, beq_iff_eq, bne_iff_ne] at h2
  rcases h2 with h2 | h2
  · exact absurd h2 hij
  · exact h2

/-- Where a region stands: what its operations' slots hold (Φ), the world (T). -/
structure Flow (ops : Array Oper) (Φ : Nat → Value → World → Prop) (T : Array Bool → Act → World → Prop) (D : List Nat) (a0 : Act) (listed : Array Bool) (a : Act) (w : World) : Prop where
  size : listed.size = ops.size
  closed : Closed ops listed
  alike : FrameBut D a0 a
  slots : ∀ (j : Nat) (o : Oper) (d : Nat), ops[j]? = some o → o.dst = some d → listed.getD j false = true → ∃ v, a.tmps[d]? = some v ∧ Φ j v w
  world : T listed a w

/-- What is to be shown of one operation. -/
def FlowStep (P : Program) (ops : Array Oper) (Q : Exit → Act → World → Prop) (Φ : Nat → Value → World → Prop) (T : Array Bool → Act → World → Prop) (R : World → World → Prop) (D : List Nat) (a0 : Act) (i : Nat) (o : Oper) : Prop :=
  ∀ listed a w, Flow ops Φ T D a0 listed a w → listed.getD i true = false → (o.after.all fun e => !(Region.binds .any e) || listed.getD e.on false) = true →
    wpOp P ops Q i (fun a' w' => ∃ v, a' = a.put o.dst v ∧ (∀ d, o.dst = some d → Φ i v w') ∧ R w w' ∧ T (listed.setIfInBounds i true) a' w') a w

def eachOp (F : Nat → Oper → Prop) : Nat → List Oper → Prop
  | _, [] => True
  | n, o :: rest => F n o ∧ eachOp F (n + 1) rest

theorem eachOp_get {F : Nat → Oper → Prop} : ∀ {l : List Oper} {n i : Nat} {o : Oper}, eachOp F n l → l[i]? = some o → F (n + i) o
  | [], _, _, _, _, h => by simp at h
  | x :: l, n, 0, o, hF, h => by simp at h; subst h; exact hF.1
  | x :: l, n, i + 1, o, hF, h => by
    have := eachOp_get hF.2 (by simpa using h)
    rwa [show n + 1 + i = n + (i + 1) by omega] at this

theorem wp_region_flow {id : Nat} {a0 : Act} {w : World} {l : List Oper} (Φ : Nat → Value → World → Prop) (T : Array Bool → Act → World → Prop) (R : World → World → Prop) (D : List Nat) (hm : P.follows .mixedOrders = true)
    (hB : (orderly l.toArray && dstOk l.toArray D) = true) (hsz : (D.all fun d => decide (d < a0.tmps.size)) = true) (hR : ∀ j v w w', R w w' → Φ j v w → Φ j v w') (h0 : T (Array.replicate l.toArray.size false) a0 w.drew)
    (hstep : eachOp (FlowStep P l.toArray Q Φ T R D a0) 0 l)
    (hend : ∀ a w, Flow l.toArray Φ T D a0 (Array.replicate l.toArray.size true) a w → Q .normal a w) : (Code.region id l.toArray true).wp P Q a0 w := by
  simp only [Bool.and_eq_true] at hB
  refine wp_region_any hm (wpAny_inv (Flow l.toArray Φ T D a0) ?_ ?_ _ _ _ _ ?_ ?_)
  · intro i listed a w hr hf
    obtain ⟨hun, o, ho, hall⟩ := mem_ready.1 hr
    have hs := eachOp_get (i := i) hstep (by simpa using ho)
    rw [Nat.zero_add] at hs
    refine wpOp_mono (fun a' w' h' => ?_) (hs listed a w hf hun (by
      simp only [Array.all_eq_true', Bool.or_eq_true, Bool.not_eq_true']
      intro e he
      cases hb : Region.binds .any e with
      | false => exact .inl rfl
      | true => exact .inr (hall e he hb)))
    obtain ⟨v, rfl, hv, hR', hT⟩ := h'
    refine ⟨by rw [Array.size_setIfInBounds]; exact hf.size, hf.closed.list hr, ?_, ?_, hT⟩
    · cases hd : o.dst with
      | none => exact hf.alike
      | some d => exact hf.alike.put (dstOk_in hB.2 ho hd) v
    · intro j o' d' hj hd' hl
      by_cases hji : i = j
      · subst hji
        rw [ho] at hj; cases hj
        refine ⟨v, ?_, hv d' hd'⟩
        rw [hd']
        exact tmp_same (by rw [hf.alike.size]; simp only [List.all_eq_true, decide_eq_true_eq] at hsz; exact hsz _ (by simpa using dstOk_in hB.2 ho hd'))
      · obtain ⟨v', hv', hΦ⟩ := hf.slots j o' d' hj hd' (by rwa [getD_set_ne false hji] at hl)
        refine ⟨v', ?_, hR j v' _ _ hR' hΦ⟩
        cases hd : o.dst with
        | none => exact hv'
        | some d => exact tmp_ne (dstOk_ne hB.2 ho hd hj hd' hji) hv'
  · intro listed a w hr hf
    have hall := all_listed hB.1 hf.size hr
    have : listed = Array.replicate l.toArray.size true := by
      apply Array.ext
      · rw [Array.size_replicate]; exact hf.size
      · intro i h1 h2
        have := hall i (by rw [← hf.size]; exact h1)
        simp only [Array.getD, h1, dif_pos] at this
        rw [Array.getElem_replicate]
        exact this
    exact hend a w (this ▸ hf)
  · unfold unl
    rw [Array.toList_replicate, List.count_replicate]
    split <;> omega
  · refine ⟨by rw [Array.size_replicate], fun k o _ hl => by simp [Array.getD] at hl, FrameBut.refl _ _, fun j o d _ _ hl => by simp [Array.getD] at hl, h0⟩

theorem after_listed {o : Oper} {listed : Array Bool} (h : (o.after.all fun e => !(Region.binds .any e) || listed.getD e.on false) = true) (k : Nat) (hk : (o.after.any fun e => Region.binds .any e && e.on == k) = true) : listed.getD k false = true := by
  simp only [Array.any_eq_true', Bool.and_eq_true, beq_iff_eq] at hk
  obtain ⟨e, he, hb, rfl⟩ := hk
  simp only [Array.all_eq_true', Bool.or_eq_true, Bool.not_eq_true'] at h
  rcases h e he with h1 | h1
  · rw [hb] at h1; cases h1
  · exact h1

/-- What waits for one that has not run has not run. -/
theorem not_yet {listed : Array Bool} (hcl : Closed ops listed) {n e i : Nat} (hw : waitsFor ops n e i = true) (hun : listed.getD i true = false) : listed.getD e false = false := by
  cases h : listed.getD e false with
  | false => rfl
  | true =>
    exfalso
    have h3 := waitsFor_spec hcl n e i hw (fun o ho => fun d hd hb => hcl e o ho h d hd hb)
    rcases Nat.lt_or_ge i listed.size with h' | h'
    · simp [Array.getD, h'] at hun h3; rw [hun] at h3; cases h3
    · simp [Array.getD, Nat.not_lt.2 h'] at hun

theorem listed_same {listed : Array Bool} {k : Nat} (h : k < listed.size) : (listed.setIfInBounds k true).getD k false = true := by
  simp [Array.getD, h]

/-- A slot that an operation has filled. -/
theorem Flow.slot {Φ : Nat → Value → World → Prop} {T : Array Bool → Act → World → Prop} {D : List Nat} {a0 a : Act} {listed : Array Bool} {w : World} (h : Flow ops Φ T D a0 listed a w) (j d : Nat) (hd : (ops[j]?).bind (·.dst) = some d) (hl : listed.getD j false = true) : ∃ v, a.tmps[d]? = some v ∧ Φ j v w := by
  cases ho : ops[j]? with
  | none => rw [ho] at hd; cases hd
  | some o => rw [ho] at hd; exact h.slots j o d ho hd hl
end flow
end Go.Gl

/- A region that draws its order, all of whose operations leave one value, whatever has run before: walked once, in the text's order. -/
namespace Go.Gl
open Go Go.RowKit

section fix
variable {P : Program} {ops : Array Oper} {Q : Exit → Act → World → Prop} {I : World → Prop}

/-- In the frame a, in every world of I, the operation leaves v and a world of I. -/
def Gives (P : Program) (ops : Array Oper) (I : World → Prop) (o : Oper) (a : Act) (v : Value) : Prop :=
  (Region.wanted o (yielded ops a.tmps) = false ∧ v = undef) ∨
  (Region.wanted o (yielded ops a.tmps) = true ∧ ∀ W, I W →
    (∃ W', (execOp a.eval o).run P W = .ok (.value v) W' ∧ I W') ∨
    (∃ W', (execOp a.eval o).run P W = .ok .skip W' ∧ v = undef ∧ I W') ∨
    (∃ f args, (execOp a.eval o).run P W = .ok (.enter f args) W ∧ Calls P f args W (fun e W' => e = .returned v ∧ I W')))

/-- The operations in the text's order. -/
def wpFix (P : Program) (ops : Array Oper) (I : World → Prop) (fin : Act → Prop) : List Oper → Act → Prop
  | [], a => fin a
  | o :: rest, a => ∃ v, Gives P ops I o a v ∧ wpFix P ops I fin rest (a.put o.dst v)

/-- The slots that the operations from k on fill. -/
def dsts (l : List Oper) : List Nat := l.filterMap (·.dst)

/-- What each operation looks at is filled by operations that it waits for, or by none of the region. -/
def readsOk (ops : Array Oper) : Bool := (List.range ops.size).all fun i => match ops[i]? with
  | none => true
  | some o => (o.looksAt ops).all fun t => (List.range ops.size).all fun j =>
      (match (ops[j]?).bind (·.dst) with | none => true | some d => d != t) || (decide (j < i) && (o.after.any fun e => Region.binds .any e && e.on == j))

theorem FrameBut.trans {D : List Nat} {a b c : Act} (h : FrameBut D a b) (k : FrameBut D b c) : FrameBut D a c :=
  ⟨k.size.trans h.size, fun i hi => (k.same i hi).trans (h.same i hi), k.defers.trans h.defers⟩
theorem FrameBut.mono {D E : List Nat} {a b : Act} (h : FrameBut D a b) (hs : ∀ i, E.contains i = false → D.contains i = false) : FrameBut E a b :=
  ⟨h.size, fun i hi => h.same i (hs i hi), h.defers⟩

/-- The final frame of a walk in the text's order. -/
theorem wpFix_end (fin : Act → Prop) : ∀ (l : List Oper) (a : Act), wpFix P ops I fin l a → (∀ d ∈ dsts l, d < a.tmps.size) → (dsts l).Nodup →
    ∃ aF, fin aF ∧ FrameBut (dsts l) a aF ∧ ∀ (k : Nat) (o : Oper), l[k]? = some o → ∃ ak v, Gives P ops I o ak v ∧ FrameBut (dsts (l.drop k)) ak aF ∧ ∀ d, o.dst = some d → aF.tmps[d]? = some v
  | [], a, h, _, _ => ⟨a, h, FrameBut.refl _ _, fun k o hk => by simp at hk⟩
  | o :: l, a, ⟨v, hg, hr⟩, hs, hn => by
    have hsub : ∀ d ∈ dsts l, d ∈ dsts (o :: l) := fun d hd => by
      unfold dsts at hd ⊢
      rw [List.filterMap_cons]
      split
      · exact hd
      · exact List.mem_cons_of_mem _ hd
    have hnl : (dsts l).Nodup := by
      unfold dsts at hn ⊢
      rw [List.filterMap_cons] at hn
      split at hn
      · exact hn
      · exact (List.nodup_cons.1 hn).2
    have hsz : (a.put o.dst v).tmps.size = a.tmps.size := by cases o.dst <;> simp [Act.put]
    obtain ⟨aF, h1, h2, h3⟩ := wpFix_end fin l (a.put o.dst v) hr (fun d hd => by rw [hsz]; exact hs d (hsub d hd)) hnl
    have hup : FrameBut (dsts (o :: l)) a (a.put o.dst v) := by
      cases hd : o.dst with
      | none => exact FrameBut.refl _ _
      | some d => exact FrameBut.put (FrameBut.refl _ _) (by unfold dsts; rw [List.filterMap_cons, hd]; simp) v
    have hmono : FrameBut (dsts (o :: l)) (a.put o.dst v) aF := h2.mono fun i hi => by
      cases hc : (dsts l).contains i with
      | false => rfl
      | true =>
        have := hsub i (by simpa using hc)
        have hc2 : (dsts (o :: l)).contains i = true := by simpa using this
        rw [hc2] at hi; cases hi
    refine ⟨aF, h1, hup.trans hmono, fun k o' hk => ?_⟩
    cases k with
    | zero =>
      simp only [List.getElem?_cons_zero, Option.some.injEq] at hk
      subst hk
      refine ⟨a, v, hg, hup.trans hmono, fun d hd => ?_⟩
      have hnd : (dsts l).contains d = false := by
        unfold dsts at hn ⊢
        rw [List.filterMap_cons, hd] at hn
        have := (List.nodup_cons.1 hn).1
        simpa using this
      rw [h2.same d hnd, hd]
      refine tmp_same (hs d ?_)
      unfold dsts
      rw [List.filterMap_cons, hd]
      simp
    | succ k =>
      simp only [List.getElem?_cons_succ] at hk
      obtain ⟨ak, v', g1, g2, g3⟩ := h3 k o' hk
      exact ⟨ak, v', g1, g2, g3⟩

theorem looks_same {o : Oper} {a b : Act} (hs : ∀ cs c, o.op ≠ .select cs c) (h : ∀ t ∈ o.looksAt ops, a.tmps[t]? = b.tmps[t]?) :
    execOp a.eval o = execOp b.eval o ∧ Region.wanted o (yielded ops a.tmps) = Region.wanted o (yielded ops b.tmps) := by
  constructor
  · refine execOp_congr o hs fun x hx => ?_
    cases x with
    | tmp t =>
      have := h t (List.mem_append_left _ (List.mem_filterMap.2 ⟨.tmp t, by simpa using hx, rfl⟩))
      simp only [Act.eval, Array.getD_eq_getD_getElem?, this]
    | _ => rfl
  · unfold Region.wanted
    cases hg : o.guard with
    | none => rfl
    | some gw =>
      obtain ⟨g, want⟩ := gw
      have : yielded ops a.tmps g = yielded ops b.tmps g := by
        unfold yielded
        cases ht : (ops[g]?).bind (·.dst) with
        | none => rfl
        | some t =>
          have := h t (List.mem_append_right _ (by simp [hg, ht]))
          simp only [Option.bind_some, this]
      simp only [this]

theorem dsts_mem {l : List Oper} {d : Nat} : d ∈ dsts l ↔ ∃ o ∈ l, o.dst = some d := by
  unfold dsts
  rw [List.mem_filterMap]

theorem wp_region_fix {id : Nat} {a0 : Act} {w : World} {l : List Oper} (I : World → Prop) (hm : P.follows .mixedOrders = true)
    (hB : (Region.noSelect l.toArray && orderly l.toArray && readsOk l.toArray && decide (dsts l).Nodup) = true) (hsz : ((dsts l).all fun d => decide (d < a0.tmps.size)) = true)
    (hI : I w.drew) (h : wpFix P l.toArray I (fun a => ∀ W, I W → Q .normal a W) l a0) : (Code.region id l.toArray true).wp P Q a0 w := by
  simp only [Bool.and_eq_true, decide_eq_true_eq] at hB
  obtain ⟨⟨⟨hsel, hord⟩, hread⟩, hnd⟩ := hB
  obtain ⟨aF, hfin, hfr, hstep⟩ := wpFix_end _ l a0 h (fun d hd => by simp only [List.all_eq_true, decide_eq_true_eq] at hsz; exact hsz d hd) hnd
  have hlast : ∀ (j : Nat) (o : Oper) (d : Nat), l[j]? = some o → o.dst = some d → ∃ v, aF.tmps[d]? = some v := fun j o d hj hd => by
    obtain ⟨_, v, _, _, h3⟩ := hstep j o hj
    exact ⟨v, h3 d hd⟩
  have hdst : dstOk l.toArray (dsts l) = true := by
    unfold dstOk
    simp only [List.all_eq_true, List.mem_range]
    intro i hi
    cases ho : l[i]? with
    | none => simp [ho]
    | some o =>
      cases hd : o.dst with
      | none => simp [ho, hd]
      | some d =>
        simp only [List.getElem?_toArray, ho, Option.bind_some, hd, Bool.and_eq_true, List.all_eq_true, List.mem_range, Bool.or_eq_true, beq_iff_eq]
        refine ⟨by simpa using dsts_mem.2 ⟨o, List.mem_of_getElem? ho, hd⟩, fun j hj => ?_⟩
        by_cases hij : i = j
        · exact .inl hij
        · right
          cases ho' : l[j]? with
          | none => simp
          | some o' =>
            cases hd' : o'.dst with
            | none => simp [hd']
            | some d' =>
              simp only [Option.bind_some, hd', bne_iff_ne, ne_eq]
              rintro rfl
              -- two places of one slot
              have key : ∀ (l : List Oper) (i j : Nat) (o o' : Oper) (d : Nat), (dsts l).Nodup → l[i]? = some o → l[j]? = some o' → o.dst = some d → o'.dst = some d → i = j := by
                intro l
                induction l with
                | nil => intro i j o o' d _ hi; simp at hi
                | cons x l ih =>
                  intro i j o o' d hn hi hj hdo hdo'
                  have hnl : (dsts l).Nodup := by
                    unfold dsts at hn ⊢
                    rw [List.filterMap_cons] at hn
                    split at hn
                    · exact hn
                    · exact (List.nodup_cons.1 hn).2
                  have hx : ∀ (o : Oper) (k : Nat), l[k]? = some o → o.dst = some d → x.dst ≠ some d := fun o k hk hod hxd => by
                    unfold dsts at hn
                    rw [List.filterMap_cons, hxd] at hn
                    exact (List.nodup_cons.1 hn).1 (List.mem_filterMap.2 ⟨o, List.mem_of_getElem? hk, hod⟩)
                  cases i with
                  | zero =>
                    cases j with
                    | zero => rfl
                    | succ j =>
                      simp at hi hj
                      subst hi
                      exact absurd hdo (hx o' j hj hdo')
                  | succ i =>
                    cases j with
                    | zero =>
                      simp at hi hj
                      subst hj
                      exact absurd hdo' (hx o i hi hdo)
                    | succ j =>
                      simp at hi hj
                      rw [ih i j o o' d hnl hi hj hdo hdo']
              exact hij (key l i j o o' d hnd ho ho' hd hd')
  refine wp_region_flow (Φ := fun j v _ => ∀ d, ((l.toArray)[j]?).bind (·.dst) = some d → aF.tmps[d]? = some v) (T := fun _ _ W => I W) (R := fun _ _ => True) (dsts l) hm
    (by rw [hord, hdst]; rfl) hsz (fun _ _ _ _ _ h => h) hI ?_ ?_
  · have gen : ∀ (m : List Oper) (n : Nat), (∀ (k : Nat) (o : Oper), m[k]? = some o → l[n + k]? = some o) →
        eachOp (FlowStep P l.toArray Q (fun j v _ => ∀ d, ((l.toArray)[j]?).bind (·.dst) = some d → aF.tmps[d]? = some v) (fun _ _ W => I W) (fun _ _ => True) (dsts l) a0) n m := by
      intro m
      induction m with
      | nil => intro n _; trivial
      | cons o m ih =>
        intro n hm'
        refine ⟨?_, ih (n + 1) (fun k o' hk => by have := hm' (k + 1) o' (by simpa using hk); rwa [show n + (k + 1) = n + 1 + k by omega] at this)⟩
        have ho : l[n]? = some o := hm' 0 o rfl
        intro listed a W hf hun haf
        obtain ⟨ak, v, hg, hak, hv⟩ := hstep n o ho
        have hslots : ∀ t ∈ o.looksAt l.toArray, ak.tmps[t]? = a.tmps[t]? := by
          intro t ht
          have hr := hread
          unfold readsOk at hr
          simp only [List.all_eq_true, List.mem_range] at hr
          have h1 := hr n (by have := (List.getElem?_eq_some_iff.1 ho).1; simpa using this)
          simp only [List.getElem?_toArray, ho] at h1
          simp only [List.all_eq_true, List.mem_range, Bool.or_eq_true, Bool.and_eq_true, decide_eq_true_eq] at h1
          have h2 := h1 t ht
          -- outside of what comes from n on
          have hout : (dsts (l.drop n)).contains t = false := by
            cases hc : (dsts (l.drop n)).contains t with
            | false => rfl
            | true =>
              exfalso
              obtain ⟨o', ho', hd'⟩ := dsts_mem.1 (by simpa using hc : t ∈ dsts (l.drop n))
              obtain ⟨k, hk⟩ := List.mem_iff_getElem?.1 ho'
              rw [List.getElem?_drop] at hk
              have h3 := h2 (n + k) (by have := (List.getElem?_eq_some_iff.1 hk).1; simpa using this)
              rw [hk] at h3
              simp only [Option.bind_some, hd', bne_iff_ne, ne_eq, not_true_eq_false, false_or] at h3
              omega
          have e1 : ak.tmps[t]? = aF.tmps[t]? := (hak.same t hout).symm
          rw [e1]
          cases hc : (dsts l).contains t with
          | false => rw [hfr.same t hc, hf.alike.same t hc]
          | true =>
            obtain ⟨o', ho', hd'⟩ := dsts_mem.1 (by simpa using hc : t ∈ dsts l)
            obtain ⟨j, hj⟩ := List.mem_iff_getElem?.1 ho'
            have h3 := h2 j (by have := (List.getElem?_eq_some_iff.1 hj).1; simpa using this)
            rw [hj] at h3
            simp only [Option.bind_some, hd', bne_iff_ne, ne_eq, not_true_eq_false, false_or] at h3
            have hlj := after_listed haf j h3.2
            obtain ⟨u, hu1, hu2⟩ := hf.slots j o' t (by simpa using hj) hd' hlj
            rw [hu1, hu2 t (by rw [List.getElem?_toArray, hj]; exact hd')]
        have hsel' : ∀ cs c, o.op ≠ .select cs c := fun cs c => Region.noSelect_spec hsel n o cs c (by simpa using ho)
        obtain ⟨eqx, eqw⟩ := looks_same (ops := l.toArray) hsel' hslots
        have hdv : ∀ d, o.dst = some d → ∀ d', (some o).bind (·.dst) = some d' → aF.tmps[d']? = some v := fun d hd d' hd' => hv d' hd'
        unfold wpOp
        simp only [List.getElem?_toArray, ho]
        rcases hg with ⟨g1, rfl⟩ | ⟨g1, g2⟩
        · rw [eqw] at g1
          rw [g1]
          simp only [Bool.false_eq_true, if_false]
          exact ⟨undef, rfl, hdv, trivial, hf.world⟩
        · rw [eqw] at g1
          rw [g1]
          simp only [if_true]
          left
          unfold Oper.wp
          rw [← eqx]
          rcases g2 W hf.world with ⟨W', hr, hI'⟩ | ⟨W', hr, rfl, hI'⟩ | ⟨f, args, hr, hc⟩
          · rw [hr]; exact ⟨v, rfl, hdv, trivial, hI'⟩
          · rw [hr]; exact ⟨undef, rfl, hdv, trivial, hI'⟩
          · rw [hr]
            exact hc.mono fun e W' ⟨he, hI'⟩ => by subst he; exact ⟨v, rfl, hdv, trivial, hI'⟩
    exact gen l 0 (fun k o hk => by rwa [Nat.zero_add])
  · intro a W hf
    have : a = aF := by
      have hd := hf.alike.defers.trans hfr.defers.symm
      have ht : a.tmps = aF.tmps := by
        apply Array.ext_getElem?
        intro i
        cases hc : (dsts l).contains i with
        | false => rw [hf.alike.same i hc, hfr.same i hc]
        | true =>
          obtain ⟨o', ho', hd'⟩ := dsts_mem.1 (by simpa using hc : i ∈ dsts l)
          obtain ⟨j, hj⟩ := List.mem_iff_getElem?.1 ho'
          obtain ⟨u, hu1, hu2⟩ := hf.slots j o' i (by simpa using hj) hd' (by
            have := (List.getElem?_eq_some_iff.1 hj).1
            simp [Array.getD, this])
          rw [hu1, hu2 i (by rw [List.getElem?_toArray, hj]; exact hd')]
      obtain ⟨at', ad⟩ := a
      obtain ⟨ft, fd⟩ := aF
      simp only at ht hd
      rw [ht, hd]
    subst this
    exact hfin W hf.world

theorem wpFix_nil {fin : Act → Prop} {a : Act} (h : fin a) : wpFix P ops I fin [] a := h
theorem wpFix_quiet {fin : Act → Prop} {rest : List Oper} {a : Act} {o : Oper} {v : Value} (hw : Region.wanted o (yielded ops a.tmps) = true)
    (hv : ∀ W, I W → (execOp a.eval o).run P W = .ok (.value v) W) (h : wpFix P ops I fin rest (a.put o.dst v)) : wpFix P ops I fin (o :: rest) a :=
  ⟨v, .inr ⟨hw, fun W hW => .inl ⟨W, hv W hW, hW⟩⟩, h⟩
theorem wpFix_off {fin : Act → Prop} {rest : List Oper} {a : Act} {o : Oper} (hw : Region.wanted o (yielded ops a.tmps) = false)
    (h : wpFix P ops I fin rest (a.put o.dst undef)) : wpFix P ops I fin (o :: rest) a :=
  ⟨undef, .inl ⟨hw, rfl⟩, h⟩
theorem wpFix_call {fin : Act → Prop} {rest : List Oper} {a : Act} {o : Oper} {v : Value} {f : FuncId} {args : Array Value} (hw : Region.wanted o (yielded ops a.tmps) = true)
    (hr : ∀ W, (execOp a.eval o).run P W = .ok (.enter f args) W) (hc : ∀ W, I W → Calls P f args W (fun e W' => e = .returned v ∧ I W')) (h : wpFix P ops I fin rest (a.put o.dst v)) : wpFix P ops I fin (o :: rest) a :=
  ⟨v, .inr ⟨hw, fun W hW => .inr (.inr ⟨f, args, hr W, hc W hW⟩)⟩, h⟩
theorem wpFix_run {fin : Act → Prop} {rest : List Oper} {a : Act} {o : Oper} {v : Value} (hw : Region.wanted o (yielded ops a.tmps) = true)
    (hv : ∀ W, I W → ∃ W', (execOp a.eval o).run P W = .ok (.value v) W' ∧ I W') (h : wpFix P ops I fin rest (a.put o.dst v)) : wpFix P ops I fin (o :: rest) a :=
  ⟨v, .inr ⟨hw, fun W hW => .inl (hv W hW)⟩, h⟩
attribute [irreducible] wpFix
end fix
end Go.Gl

/- A region that draws its order whose last operations wait for all others: behind the others the region's condition on the world need not hold. -/
namespace Go.Gl
open Go Go.RowKit
section late
variable {P : Program} {ops : Array Oper} {Q : Exit → Act → World → Prop} {S : World → Prop}

/-- As 'wpAnyL', for a row of late operations. -/
def wpAnyT (P : Program) (ops : Array Oper) (Q : Exit → Act → World → Prop) (S : World → Prop) (late : List Nat) : Nat → Array Bool → Act → World → Prop
  | 0, listed, a, w => Region.ready .any ops listed = [] ∧ Q .normal a w
  | fuel + 1, listed, a, w =>
    (Region.ready .any ops listed = [] → Q .normal a w) ∧
    ∀ i ∈ Region.ready .any ops listed, wpOp P ops Q i (fun a' w' => (late.contains i = false → S w') ∧ wpAnyT P ops Q S late fuel (listed.setIfInBounds i true) a' w') a w

theorem wpAny_of_late {late : List Nat} : ∀ (fuel : Nat) (listed : Array Bool) (a : Act) (w : World), wpAnyT P ops Q S late fuel listed a w → wpAny P .any ops Q fuel listed a w
  | 0, _, _, _, h => h
  | fuel + 1, _, _, _, h => ⟨h.1, fun i hi => wpOp_mono (fun a' w' h' => wpAny_of_late fuel _ a' w' h'.2) (h.2 i hi)⟩

/-- Behind the others S is not asked. -/
theorem late_of_any {late : List Nat} : ∀ (fuel : Nat) (listed : Array Bool) (a : Act) (w : World), (∀ i, late.contains i = false → listed.getD i true = true) → wpAny P .any ops Q fuel listed a w → wpAnyT P ops Q S late fuel listed a w
  | 0, _, _, _, _, h => h
  | fuel + 1, listed, _, _, hl, h => by
    refine ⟨h.1, fun i hi => wpOp_mono (fun a' w' h' => ?_) (h.2 i hi)⟩
    have h1 := (mem_ready.1 hi).1
    refine ⟨fun hn => ?_, late_of_any fuel _ a' w' (fun j hj => ?_) h'⟩
    · rw [hl i hn] at h1; cases h1
    · by_cases hij : i = j
      · subst hij
        rw [hl i hj] at h1; cases h1
      · rw [getD_set_ne true hij]; exact hl j hj

/-- Each late operation waits for all others. -/
def lateOk (ops : Array Oper) (late : List Nat) : Bool := late.all fun l => (List.range ops.size).all fun k => late.contains k || waitsFor ops ops.size l k

theorem lateOk_spec {late : List Nat} (h : lateOk ops late = true) {listed : Array Bool} (hcl : Closed ops listed) {l : Nat} (hl : late.contains l = true) (hr : l ∈ Region.ready .any ops listed) {i : Nat} (hi : i ∈ Region.ready .any ops listed) : late.contains i = true := by
  cases hc : late.contains i with
  | true => rfl
  | false =>
    exfalso
    obtain ⟨h1, o, ho, hall⟩ := mem_ready.1 hr
    obtain ⟨g1, oi, hoi, _⟩ := mem_ready.1 hi
    unfold lateOk at h
    simp only [List.all_eq_true, List.mem_range] at h
    have hlt : i < ops.size := by
      rcases Nat.lt_or_ge i ops.size with h2 | h2
      · exact h2
      · rw [Array.getElem?_eq_none h2] at hoi; cases hoi
    have h2 := h l (by simpa using hl) i hlt
    simp only [hc, Bool.false_or] at h2
    have h3 := waitsFor_spec hcl ops.size l i h2 (fun o' ho' => by rw [ho] at ho'; cases ho'; exact hall)
    rcases Nat.lt_or_ge i listed.size with h' | h'
    · simp [h'] at g1 h3; rw [g1] at h3; cases h3
    · simp [Array.getElem?_eq_none h'] at h3

theorem wpAnyT_first {late : List Nat} {i : Nat} {oi : Oper} {v : Value} (hlast : lateOk ops late = true) (hil : late.contains i = false) (hi : ops[i]? = some oi) (hsel : ∀ (j : Nat) (o : Oper) cs b, ops[j]? = some o → o.op ≠ .select cs b)
    (hQ : ∀ c a w, Q (.panic c) (a.put oi.dst v) w → Q (.panic c) a w) :
    ∀ (fuel : Nat) (listed : Array Bool) (a : Act) (w : World), Closed ops listed →
      (∀ j oj, ops[j]? = some oj → j ≠ i → listed.getD j true = false → (∀ e ∈ oj.after, Region.binds .any e = true → e.on ≠ i) → oi.apart ops oj = true) →
      i ∈ Region.ready .any ops listed → YieldsIf P ops S oi v a → S w →
      wpAnyT P ops Q S late fuel (listed.setIfInBounds i true) (a.put oi.dst v) w → wpAnyT P ops Q S late (fuel + 1) listed a w := by
  intro fuel
  induction fuel with
  | zero =>
    intro listed a w _ _ hr hy hS H
    refine ⟨fun h => (by rw [h] at hr; cases hr), fun j hj => ?_⟩
    by_cases hji : j = i
    · subst hji; exact hy.wpOp hi hS ⟨fun _ => hS, H⟩
    · have := ready_mono hj hji
      rw [H.1] at this
      cases this
  | succ fuel ih =>
    intro listed a w hcl hfree hr hy hS H
    refine ⟨fun h => (by rw [h] at hr; cases hr), fun j hj => ?_⟩
    by_cases hji : j = i
    · subst hji; exact hy.wpOp hi hS ⟨fun _ => hS, H⟩
    · have hjl : late.contains j = false := by
        cases hc : late.contains j with
        | false => rfl
        | true => rw [lateOk_spec hlast hcl hc hj hr] at hil; cases hil
      have h1 := H.2 j (ready_mono hj hji)
      obtain ⟨hjun, oj, hoj, hall⟩ := mem_ready.1 hj
      have hnot : ∀ e ∈ oj.after, Region.binds .any e = true → e.on ≠ i := fun e he hb heq => by
        have h1 := hall e he hb
        have h0 := (mem_ready.1 hr).1
        rw [heq] at h1
        rcases Nat.lt_or_ge i listed.size with h' | h'
        · simp [h'] at h0 h1; rw [h0] at h1; cases h1
        · simp [Array.getElem?_eq_none h'] at h1
      have h2 := wpOp_putIf hoj (hfree j oj hoj hji hjun hnot) (fun cs b => hsel i oi cs b hi) (fun cs b => hsel j oj cs b hoj) hQ hy h1
      have hfree' : ∀ k ok, ops[k]? = some ok → k ≠ i → (listed.setIfInBounds j true).getD k true = false →
          (∀ e ∈ ok.after, Region.binds .any e = true → e.on ≠ i) → oi.apart ops ok = true := fun k ok hk hki hun hno => by
        refine hfree k ok hk hki ?_ hno
        by_cases hjk : j = k
        · subst hjk; exact hjun
        · rw [getD_set_ne true hjk] at hun; exact hun
      refine wpOp_mono (fun a' w' h3 => ⟨h3.2.1, ih (listed.setIfInBounds j true) a' w' (hcl.list hj) hfree' (ready_mono hr (Ne.symm hji)) h3.1 (h3.2.1 hjl) ?_⟩) h2
      rw [Array.setIfInBounds_comm _ _ hji]
      exact h3.2.2

/-- What is left. -/
def lateQ (P : Program) (ops : Array Oper) (Q : Exit → Act → World → Prop) (fuel : Nat) (goal : Array Bool) : Exit → Act → World → Prop
  | .normal, a, w => wpAny P .any ops Q fuel goal a w
  | e, a, w => Q e a w

theorem wp_lateQ {fuel : Nat} {goal : Array Bool} {o : Oper} {a : Act} {w : World} {K K' : Act → World → Prop} (h : ∀ a w, K a w → K' a w) (hh : o.wp P a w K (lateQ P ops Q fuel goal)) : o.wp P a w K' Q := by
  unfold Oper.wp at *
  generalize (execOp a.eval o).run P w = r at *
  cases r with
  | ok n w' =>
    cases n <;> simp only [Oper.upon] at hh ⊢
    case value u => exact h _ _ hh
    case skip => exact h _ _ hh
    case defer d => exact h _ _ hh
    case enter f args =>
      refine Calls.mono hh fun e w'' he => ?_
      cases e with
      | returned u => exact h _ _ he
      | panicked c => exact he
      | outgrown => exact he
    case row row args => exact Rows.mono hh fun u w'' he => h _ _ he
  | halt x w' =>
    cases x <;> simp only [Oper.upon] at hh ⊢
    case panic u => exact hh

def checkLt (ops : Array Oper) (late : List Nat) (goal : Array Bool) : List (Nat × Bool) → Array Bool → Bool
  | [], listed => listed == goal && (List.range listed.size).all fun i => late.contains i || listed.getD i true
  | (i, false) :: rest, listed => !late.contains i && (Region.ready .any ops listed).contains i && Region.free .any ops listed i && checkLt ops late goal rest (listed.setIfInBounds i true)
  | (i, true) :: rest, listed => !late.contains i && decide (Region.ready .any ops listed = [i]) && checkLt ops late goal rest (listed.setIfInBounds i true)

theorem wpAnyT_of_pi {l : List Oper} {late : List Nat} {fuel : Nat} {goal : Array Bool} (hlast : lateOk l.toArray late = true) (hs : Region.noSelect l.toArray = true) (hQ : ∀ c a d v w, Q (.panic c) (Act.put a d v) w → Q (.panic c) a w) : ∀ (π : List (Nat × Bool)) (listed : Array Bool) (a : Act) (w : World), Closed l.toArray listed →
    checkLt l.toArray late goal π listed = true → S w → wpPi P l.toArray (lateQ P l.toArray Q fuel goal) S (arrange l π) a w → wpAnyT P l.toArray Q S late (π.length + fuel) listed a w
  | [], listed, a, w, hcl, hc, hS, h => by
    simp only [checkLt, Bool.and_eq_true, beq_iff_eq] at hc
    unfold arrange wpPi at h
    rw [List.length_nil, Nat.zero_add, hc.1]
    refine late_of_any fuel goal a w (fun i hi => ?_) h
    have h2 := hc.2
    rw [← hc.1]
    simp only [List.all_eq_true, List.mem_range, Bool.or_eq_true] at h2
    rcases Nat.lt_or_ge i listed.size with h' | h'
    · rcases h2 i h' with h3 | h3
      · rw [hi] at h3; cases h3
      · exact h3
    · simp [Array.getD, Nat.not_lt.2 h']
  | (i, false) :: rest, listed, a, w, hcl, hc, hS, h => by
    simp only [checkLt, Bool.and_eq_true, Bool.not_eq_true'] at hc
    obtain ⟨v, hy, hr⟩ : ∃ v, YieldsIf P l.toArray S (nth l i) v a ∧ wpPi P l.toArray (lateQ P l.toArray Q fuel goal) S (arrange l rest) (a.put (nth l i).dst v) w := by
      unfold arrange wpPi at h; exact h
    have hi := ready_lt (by simpa using hc.1.1.2)
    have hi' : l.toArray[i]? = some (nth l i) := by simpa using nth_of_lt (l := l) (by simpa using hi)
    have := wpAnyT_first (fuel := rest.length + fuel) hlast hc.1.1.1 hi' (Region.noSelect_spec hs) (fun c a w => hQ c a _ _ w) listed a w hcl (Region.free_spec hi' hc.1.2) (by simpa using hc.1.1.2) hy hS (wpAnyT_of_pi hlast hs hQ rest _ _ _ (hcl.list (by simpa using hc.1.1.2)) hc.2 hS hr)
    rw [List.length_cons, show rest.length + 1 + fuel = rest.length + fuel + 1 by omega]
    exact this
  | (i, true) :: rest, listed, a, w, hcl, hc, hS, h => by
    simp only [checkLt, Bool.and_eq_true, decide_eq_true_eq, Bool.not_eq_true'] at hc
    rw [List.length_cons, show rest.length + 1 + fuel = rest.length + fuel + 1 by omega]
    refine ⟨fun h0 => (by rw [h0] at hc; cases hc.1.2), fun j hj => ?_⟩
    rw [hc.1.2] at hj
    have hji : j = i := by simpa using hj
    subst hji
    have hi : l.toArray[j]? = some (nth l j) := by
      have := ready_lt (ops := l.toArray) (listed := listed) (i := j) (by rw [hc.1.2]; simp)
      simpa using nth_of_lt (l := l) (by simpa using this)
    unfold arrange wpPi at h
    unfold wpOp
    simp only [hi]
    split
    · rename_i hw
      rw [if_pos hw] at h
      exact .inl (wp_lateQ (fun a' w' h' => ⟨fun _ => h'.1, wpAnyT_of_pi hlast hs hQ rest _ _ _ (hcl.list (by rw [hc.1.2]; simp)) hc.2 h'.1 h'.2⟩) h)
    · rename_i hw
      rw [if_neg hw] at h
      exact ⟨fun _ => h.1, wpAnyT_of_pi hlast hs hQ rest _ _ _ (hcl.list (by rw [hc.1.2]; simp)) hc.2 h.1 h.2⟩

/-- The others by π under S, then the late ones, one by one. -/
theorem wp_region_late {id : Nat} {a : Act} {w : World} {l : List Oper} (S : World → Prop) (π : List (Nat × Bool)) (late : List Nat) (goal : Array Bool) (fuel : Nat) (hm : P.follows .mixedOrders = true)
    (hB : (lateOk l.toArray late && Region.noSelect l.toArray && checkLt l.toArray late goal π (Array.replicate l.toArray.size false) && decide (π.length + fuel = l.toArray.size)) = true)
    (hQ : ∀ c a d v w, Q (.panic c) (Act.put a d v) w → Q (.panic c) a w) (hS : S w.drew) (h : wpPi P l.toArray (lateQ P l.toArray Q fuel goal) S (arrange l π) a w.drew) : (Code.region id l.toArray true).wp P Q a w := by
  simp only [Bool.and_eq_true, decide_eq_true_eq] at hB
  refine wp_region_any hm (wpAny_of_late (S := S) (late := late) _ _ _ _ ?_)
  rw [← hB.2]
  exact wpAnyT_of_pi hB.1.1.1 hB.1.1.2 hQ π _ _ _ (fun k o _ hl => by simp [Array.getD] at hl) (by rw [hB.2]; exact hB.1.2) hS h

/-- The next one, which alone is ready. -/
theorem lateQ_act {fuel : Nat} {goal : Array Bool} {i : Nat} {o : Oper} {a : Act} {w : World} (hr : Region.ready .any ops goal = [i]) (ho : ops[i]? = some o) (hw : Region.wanted o (yielded ops a.tmps) = true)
    (h : ∀ K : Act → World → Prop, (∀ a w, lateQ P ops Q fuel (goal.setIfInBounds i true) .normal a w → K a w) → o.wp P a w K Q) : lateQ P ops Q (fuel + 1) goal .normal a w := by
  refine ⟨fun h0 => (by rw [h0] at hr; cases hr), fun j hj => ?_⟩
  rw [hr] at hj
  have hji : j = i := by simpa using hj
  subst hji
  unfold wpOp
  simp only [ho]
  rw [if_pos hw]
  refine .inl (h _ (fun a' w' h' => ?_))
  exact h'
theorem lateQ_nil {goal : Array Bool} {a : Act} {w : World} (hr : Region.ready .any ops goal = []) (h : Q .normal a w) : lateQ P ops Q 0 goal .normal a w := ⟨hr, h⟩
end late
end Go.Gl
